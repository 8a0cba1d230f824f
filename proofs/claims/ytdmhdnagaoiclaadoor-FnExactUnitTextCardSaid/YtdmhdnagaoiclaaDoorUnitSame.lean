/- The plain law of UnitText, second part: both ends join. -/
import Derived.Test.YtdmhdnagaoiclaaDoorUnitPlain
namespace Go.Proofs.YtdmhdnagaoiclaaDoor.PFnExactUnitText
open Go.RowKit Go.Proofs.YtdmhdnagaoiclaaDoorW.PrintWords Go.Proofs.YtdmhdnagaoiclaaDoorW.PrintLast Go.Proofs.YtdmhdnagaoiclaaDoorW.PrintMore
set_option linter.unusedVariables false
set_option linter.unusedSimpArgs false
theorem pt_size : (⟨#[46]⟩ : ByteArray).size = 1 := rfl
def fin (s : ByteArray) (v u : Nat) (nm : ByteArray) : ByteArray := (((s ++ numB ((v / u : Nat) : Int)) ++ (⟨#[46]⟩ : ByteArray)) ++ numB ((v % u * 10 / u : Nat) : Int)) ++ nm
theorem w64n (n : Nat) (h : n ≤ 9223372036854775807) : wrap64 (n : Int) = n := w64 _ (by omega)
theorem u64n (n : Nat) (h : n ≤ 18446744073709551615) : IntKind.u64.wrap (n : Int) = n := IntWalk.u64_in _ (by omega)
theorem tenth_le (v u : Nat) (hu : 1 ≤ u) : v % u * 10 / u ≤ 9 := by
  have h1 : v % u < u := Nat.mod_lt _ (by omega)
  have h2 : v % u * 10 / u < 10 := (Nat.div_lt_iff_lt_mul (by omega)).2 (by omega)
  omega
theorem div_le (v u : Nat) (h : v ≤ 9223372036854775807) : v / u ≤ 9223372036854775807 := Nat.le_trans (Nat.div_le_self _ _) h
theorem tenth (v u : Nat) (hu : 1 ≤ u) (hu2 : u ≤ 1152921504606846976) (hv : v ≤ 9223372036854775807) : spec_l25Tenth.f (v : Int) (u : Int) = some ((v % u * 10 / u : Nat) : Int) := by
  have h1 : v % u < u := Nat.mod_lt _ (by omega)
  have h9 := tenth_le v u hu
  have t1 : Int.tmod (v : Int) (u : Int) = ((v % u : Nat) : Int) := rfl
  have e1 : 10 * ((v % u : Nat) : Int) = ((v % u * 10 : Nat) : Int) := by omega
  have t2 : Int.tdiv ((v % u * 10 : Nat) : Int) (u : Int) = ((v % u * 10 / u : Nat) : Int) := rfl
  unfold spec_l25Tenth.f
  rw [u64n u (by omega), if_neg (by omega), if_neg (by omega), t1, u64n (v % u) (by omega), e1, u64n (v % u * 10) (by omega), t2, u64n (v % u * 10 / u) (by omega), w64n (v % u * 10 / u) (by omega)]
theorem fin_spec (K v u k : Nat) (s : ByteArray) (names : List ByteArray) (hK : 30 ≤ K) (hs : s.size ≤ 1) (hn : ∀ i, (rdOf ByteArray.empty names i).size ≤ 2) (hk : k < names.length) (hu : 1 ≤ u) (hu2 : u ≤ 1152921504606846976) (hv : v ≤ 9223372036854775807) :
    ((spec_l2Num.f K (wrap64 (Int.tdiv (v : Int) (u : Int)))).bind fun t108 => (if s.size + t108.size ≤ 9223372036854775807 then (if (s ++ t108).size + 1 ≤ 9223372036854775807 then ((spec_l25Tenth.f (v : Int) (u : Int)).bind fun t109 => ((spec_l2Num.f K t109).bind fun t110 => (if ((s ++ t108) ++ (⟨#[46]⟩ : ByteArray)).size + t110.size ≤ 9223372036854775807 then (if 0 ≤ (k : Int) then (if (k : Int) < (names.length : Int) then (if (((s ++ t108) ++ (⟨#[46]⟩ : ByteArray)) ++ t110).size + (rdOf ByteArray.empty names (k : Int)).size ≤ 9223372036854775807 then (some ((((s ++ t108) ++ (⟨#[46]⟩ : ByteArray)) ++ t110) ++ (rdOf ByteArray.empty names (k : Int)))) else (none)) else (none)) else (none)) else (none)))) else (none)) else (none))) = some (fin s v u (rdOf ByteArray.empty names (k : Int))) := by
  have hd := div_le v u hv
  have h9 := tenth_le v u hu
  have z1 := numB_size (v / u) (by omega)
  have z2 := numB_size (v % u * 10 / u) (by omega)
  have z3 := hn (k : Int)
  have t2 : Int.tdiv (v : Int) (u : Int) = ((v / u : Nat) : Int) := rfl
  rw [t2, w64n (v / u) hd, l2Num_nat K (v / u) hK hd]
  simp only [Option.bind_some]
  rw [if_pos (by omega), if_pos (by rw [ByteArray.size_append]; omega), tenth v u hu hu2 hv]
  simp only [Option.bind_some]
  rw [l2Num_nat K _ hK (by omega)]
  simp only [Option.bind_some]
  rw [if_pos (by simp only [ByteArray.size_append, pt_size]; omega), if_pos (by omega), if_pos (by omega), if_pos (by simp only [ByteArray.size_append, pt_size]; omega)]
  rfl
theorem fin_impl (K v u k : Nat) (s : ByteArray) (names : List ByteArray) (x0 : Int) (hs : s.size ≤ 1) (hn : ∀ i, (rdOf ByteArray.empty names i).size ≤ 2) (hk : k < names.length) (hk2 : k ≤ 10) (hu : 1 ≤ u) (hu2 : u ≤ 1152921504606846976) (hv : v ≤ 9223372036854775807) :
    impl_unitOf.j2 (K + 1) x0 names s (v : Int) (u : Int) ((k : Int) + 1) = some (fin s v u (rdOf ByteArray.empty names (k : Int))) := by
  have hd := div_le v u hv
  have h1 : v % u < u := Nat.mod_lt _ (by omega)
  have h9 := tenth_le v u hu
  have z1 := numB_size (v / u) (by omega)
  have z2 := numB_size (v % u * 10 / u) (by omega)
  have z3 := hn (k : Int)
  have t1 : Int.tmod (v : Int) (u : Int) = ((v % u : Nat) : Int) := rfl
  have t2 : Int.tdiv (v : Int) (u : Int) = ((v / u : Nat) : Int) := rfl
  have e1 : ((v % u : Nat) : Int) * 10 = ((v % u * 10 : Nat) : Int) := by omega
  have t3 : Int.tdiv ((v % u * 10 : Nat) : Int) (u : Int) = ((v % u * 10 / u : Nat) : Int) := rfl
  have e2 : (k : Int) + 1 - 1 = (k : Int) := by omega
  simp only [impl_unitOf.j2]
  rw [if_neg (by omega), if_neg (by omega), t2, u64n (v / u) (by omega), fmtU _ (by omega)]
  simp only [Option.bind_some]
  rw [if_pos (by omega), if_pos (by rw [ByteArray.size_append]; omega), t1, e1, u64n (v % u * 10) (by omega), t3, u64n (v % u * 10 / u) (by omega), fmtU _ (by omega)]
  simp only [Option.bind_some]
  rw [e2, w64 _ (by omega), if_pos (by simp only [ByteArray.size_append, pt_size]; omega), if_pos (by omega), if_pos (by omega), if_pos (by simp only [ByteArray.size_append, pt_size]; omega)]
  rfl
theorem scaled_loop (b : Nat) (names : List ByteArray) (hl : names.length = 6) (hn : ∀ i, (rdOf ByteArray.empty names i).size ≤ 2) (s : ByteArray) (hs : s.size ≤ 1) (v : Nat) (hv : v ≤ 9223372036854775807) (hb : 1 ≤ b) (x0 : Int) :
    ∀ (m k u K K' : Nat), k + m = 5 → 1 ≤ u → u * b ^ m ≤ 1152921504606846976 → 40 + m ≤ K → 3 + m ≤ K' →
      ∃ r, spec_l25Scaled.l0 K (v : Int) (b : Int) names s (u : Int) (k : Int) = some r ∧ impl_unitOf.l0 K' x0 (b : Int) names s (v : Int) (u : Int) ((k : Int) + 1) = some r
  | 0, k, u, K, K', hk, hu, hub, hK, hK' => by
    obtain ⟨K, rfl⟩ : ∃ j, K = j + 1 := ⟨K - 1, by omega⟩
    obtain ⟨K', rfl⟩ : ∃ j, K' = j + 2 := ⟨K' - 2, by omega⟩
    rw [Nat.pow_zero, Nat.mul_one] at hub
    refine ⟨fin s v u (rdOf ByteArray.empty names (k : Int)), ?_, ?_⟩
    · rw [spec_l25Scaled.l0, w64 _ (by omega), if_neg (by omega), if_neg (by omega)]
      exact fin_spec K v u k s names (by omega) hs hn (by omega) hu hub hv
    · rw [impl_unitOf.l0, if_neg (by omega)]
      exact fin_impl K' v u k s names x0 hs hn (by omega) (by omega) hu hub hv
  | m + 1, k, u, K, K', hk, hu, hub, hK, hK' => by
    obtain ⟨K, rfl⟩ : ∃ j, K = j + 1 := ⟨K - 1, by omega⟩
    obtain ⟨K', rfl⟩ : ∃ j, K' = j + 2 := ⟨K' - 2, by omega⟩
    have hpow : b ^ (m + 1) = b * b ^ m := by rw [Nat.pow_succ]; exact Nat.mul_comm _ _
    have h1m : 1 ≤ b ^ m := Nat.pow_pos hb
    have hub2 : (u * b) * b ^ m ≤ 1152921504606846976 := by rw [Nat.mul_assoc, ← hpow]; exact hub
    have hu2 : u * b ≤ 1152921504606846976 := Nat.le_trans (Nat.le_mul_of_pos_right _ h1m) hub2
    have hu3 : u ≤ 1152921504606846976 := Nat.le_trans (Nat.le_mul_of_pos_right _ hb) hu2
    have hu4 : 1 ≤ u * b := Nat.mul_pos hu hb
    have hd := div_le v u hv
    have t2 : Int.tdiv (v : Int) (u : Int) = ((v / u : Nat) : Int) := rfl
    have eub : (u : Int) * (b : Int) = ((u * b : Nat) : Int) := by simp
    by_cases hge : v / u ≥ b
    · obtain ⟨r, h1, h2⟩ := scaled_loop b names hl hn s hs v hv hb x0 m (k + 1) (u * b) K (K' + 1) (by omega) hu4 hub2 (by omega) (by omega)
      refine ⟨r, ?_, ?_⟩
      · rw [spec_l25Scaled.l0, w64 ((k : Int) + 1) (by omega), if_pos (by omega), if_neg (by omega), t2, w64n (v / u) hd, if_pos (by omega), eub, w64n (u * b) (by omega)]
        exact h1
      · rw [impl_unitOf.l0, if_pos (by omega), if_neg (by omega), t2, u64n (v / u) (by omega), if_pos (by omega), eub, u64n (u * b) (by omega), w64 ((k : Int) + 1 + 1) (by omega)]
        exact h2
    · refine ⟨fin s v u (rdOf ByteArray.empty names (k : Int)), ?_, ?_⟩
      · rw [spec_l25Scaled.l0, w64 ((k : Int) + 1) (by omega), if_pos (by omega), if_neg (by omega), t2, w64n (v / u) hd, if_neg (by omega)]
        have h := fin_spec K v u k s names (by omega) hs hn (by omega) hu hu3 hv
        rw [t2, w64n (v / u) hd] at h
        exact h
      · rw [impl_unitOf.l0, if_pos (by omega), if_neg (by omega), t2, u64n (v / u) (by omega), if_neg (by omega)]
        exact fin_impl K' v u k s names x0 hs hn (by omega) (by omega) hu hu3 hv
theorem scaled_j (b : Nat) (names : List ByteArray) (hl : names.length = 6) (hn : ∀ i, (rdOf ByteArray.empty names i).size ≤ 2) (s : ByteArray) (hs : s.size ≤ 1) (v : Nat) (hv : v ≤ 9223372036854775807) (hb : 1 ≤ b) (hb6 : b * b ^ 5 ≤ 1152921504606846976) (x0 : Int)
    (hx : s ++ numB (v : Int) = numB x0) (hx0 : -9223372036854775808 ≤ x0 ∧ x0 ≤ 9223372036854775807) (hbb : b ≤ 1024) (K K' : Nat) (hK : 60 ≤ K) (hK' : 20 ≤ K') :
    ∃ r, spec_l25Scaled.j0 K (v : Int) (b : Int) names s = some r ∧ impl_unitOf.j0 K' x0 (b : Int) names s (v : Int) = some r := by
  obtain ⟨K, rfl⟩ : ∃ j, K = j + 1 := ⟨K - 1, by omega⟩
  obtain ⟨K', rfl⟩ : ∃ j, K' = j + 3 := ⟨K' - 3, by omega⟩
  have z1 := numB_size v (by omega)
  have t2 : Int.tdiv (v : Int) 1 = ((v / 1 : Nat) : Int) := rfl
  rw [Nat.div_one] at t2
  by_cases h : v < b
  · refine ⟨numB x0, ?_, ?_⟩
    · rw [spec_l25Scaled.j0, if_pos (by omega), l2Num_nat K v (by omega) hv]
      simp only [Option.bind_some]
      rw [if_pos (by omega), hx]
    · rw [impl_unitOf.j0, impl_unitOf.l0, if_pos (by omega), if_neg (by omega), t2, IntWalk.u64_in _ (by omega), if_neg (by omega), impl_unitOf.j2, if_pos rfl, digits_in x0 hx0]
      rfl
  · obtain ⟨r, h1, h2⟩ := scaled_loop b names hl hn s hs v hv hb x0 5 0 b K (K' + 1) (by omega) hb hb6 (by omega) (by omega)
    refine ⟨r, ?_, ?_⟩
    · rw [spec_l25Scaled.j0, if_neg (by omega)]
      exact h1
    · rw [impl_unitOf.j0, impl_unitOf.l0, if_pos (by omega), if_neg (by omega), t2, IntWalk.u64_in (v : Int) (by omega), if_pos (by omega), Int.one_mul, IntWalk.u64_in _ (by omega), w64 _ (by omega)]
      exact h2
theorem scaled_same (b : Nat) (names : List ByteArray) (hl : names.length = 6) (hn : ∀ i, (rdOf ByteArray.empty names i).size ≤ 2) (hb : 1 ≤ b) (hb6 : b * b ^ 5 ≤ 1152921504606846976) (hbb : b ≤ 1024) (a0 : Int) (h : -9223372036854775808 < a0 ∧ a0 ≤ 9223372036854775807) (K K' : Nat) (hK : 60 ≤ K) (hK' : 20 ≤ K') :
    ∃ r, spec_l25Scaled.f K a0 (b : Int) names = some r ∧ impl_unitOf.f K' a0 (b : Int) names = some r := by
  by_cases hneg : a0 < 0
  · obtain ⟨v, rfl⟩ : ∃ v : Nat, a0 = -(v : Int) := ⟨a0.natAbs, by omega⟩
    obtain ⟨r, h1, h2⟩ := scaled_j b names hl hn (⟨#[45]⟩ : ByteArray) (Nat.le_refl 1) v (by omega) hb hb6 (-(v : Int)) (by rw [numB_neg v (by omega), numB_nat]; rfl) (by omega) hbb K K' hK hK'
    refine ⟨r, ?_, ?_⟩
    · rw [spec_l25Scaled.f, if_pos hneg, w64 _ (by omega)]
      have e : - -(v : Int) = (v : Int) := by omega
      rw [e]
      exact h1
    · have e : IntKind.u64.wrap (-(IntKind.u64.wrap (-(v : Int)))) = (v : Int) := by
        rw [IntKind.wrap_u64, IntKind.wrap_u64]; omega
      rw [impl_unitOf.f, if_pos hneg, e]
      exact h2
  · obtain ⟨v, rfl⟩ : ∃ v : Nat, a0 = (v : Int) := ⟨a0.toNat, by omega⟩
    obtain ⟨r, h1, h2⟩ := scaled_j b names hl hn (⟨#[]⟩ : ByteArray) (Nat.zero_le 1) v (by omega) hb hb6 (v : Int) (by rw [numB_nat]; exact bys_append [] _) (by omega) hbb K K' hK hK'
    refine ⟨r, ?_, ?_⟩
    · rw [spec_l25Scaled.f, if_neg hneg]
      exact h1
    · rw [impl_unitOf.f, if_neg hneg, IntWalk.u64_in _ (by omega)]
      exact h2
abbrev names4 : List ByteArray := [(⟨#[100]⟩ : ByteArray), (⟨#[104]⟩ : ByteArray), (⟨#[109]⟩ : ByteArray), (⟨#[115]⟩ : ByteArray)]
theorem at_some (s n m : ByteArray) (hs : s.size ≤ 1) (x y : Nat) (hx : x ≤ 9223372036854775807) (hy : y ≤ 9223372036854775807) :
    impl_UnitText.at s n m (x : Int) (y : Int) = some (if y = 0 then ((s ++ numB (x : Int)) ++ n) else ((s ++ numB (x : Int)) ++ n) ++ (numB (y : Int) ++ m)) := by
  have z1 := numB_size x (by omega)
  have z2 := numB_size y (by omega)
  unfold impl_UnitText.at
  rw [digits_in (x : Int) (by omega)]
  simp only [Option.bind_some]
  rw [if_pos (by omega)]
  by_cases h : y = 0
  · rw [if_pos (by omega), if_pos h]
  · rw [if_neg (by omega), if_neg h, digits_in (y : Int) (by omega)]
    simp only [Option.bind_some]
    rw [if_pos (by omega)]
theorem time_step (L : List Int) (hL : L.length = 4) (s : ByteArray) (hs : s.size ≤ 1) (i x y j : Nat) (nm nm2 : ByteArray) (hi : i ≤ 3) (hj : 30 ≤ j) (hx : rd L (i : Int) = (x : Int)) (hx0 : x ≠ 0) (hy : i < 3 → rd L ((i : Int) + 1) = (y : Int)) (hy3 : i = 3 → y = 0)
    (hx1 : x ≤ 9223372036854775807) (hy1 : y ≤ 9223372036854775807) (hn : rdOf ByteArray.empty names4 (i : Int) = nm) (hn1 : nm.size = 1) (hn2 : i < 3 → rdOf ByteArray.empty names4 ((i : Int) + 1) = nm2) (hn3 : nm2.size ≤ 1) :
    spec_UnitText.l0 (j + 1) s L L 4 (i : Int) = impl_UnitText.at s nm nm2 (x : Int) (y : Int) := by
  have z1 := numB_size x (by omega)
  have z2 := numB_size y (by omega)
  have hlen : (names4.length : Int) = 4 := rfl
  rw [at_some s nm nm2 hs x y hx1 hy1, spec_UnitText.l0, if_pos (by omega), if_pos (by omega), if_pos (by omega), hx, if_neg (by omega), l2Num_nat j x hj hx1, Option.bind_some, if_pos (by omega), Option.bind_some, hlen, if_pos (by omega), hn, if_pos (by rw [ByteArray.size_append]; omega)]
  by_cases h3 : i < 3
  · rw [if_pos (by omega), w64 _ (by omega), if_pos (by omega), if_pos (by omega), hy h3]
    by_cases h0 : y = 0
    · rw [if_pos (by omega), if_pos h0]
    · rw [if_neg (by omega), if_neg h0, l2Num_nat j y hj hy1, Option.bind_some, Option.bind_some, hlen, if_pos (by omega), hn2 h3, if_pos (by omega), if_pos (by simp only [ByteArray.size_append]; omega)]
  · rw [if_neg (by omega), if_pos (hy3 (by omega))]
theorem time_skip (L : List Int) (hL : L.length = 4) (s : ByteArray) (i j : Nat) (hi : i ≤ 3) (hx : rd L (i : Int) = 0) : spec_UnitText.l0 (j + 1) s L L 4 (i : Int) = spec_UnitText.l0 j s L L 4 ((i + 1 : Nat) : Int) := by
  rw [spec_UnitText.l0, if_pos (by omega), if_pos (by omega), if_pos (by omega), if_pos hx, w64 _ (by omega)]
  rfl
theorem time_same (s : ByteArray) (hs : s.size ≤ 1) (n0 n1 n2 n3 : Nat) (h0 : n0 ≤ 9223372036854775807) (h1 : n1 ≤ 9223372036854775807) (h2 : n2 ≤ 9223372036854775807) (h3 : n3 ≤ 9223372036854775807) (j : Nat) (hj : 30 ≤ j) :
    ∃ r, spec_UnitText.l0 (j + 5) s [(n0 : Int), (n1 : Int), (n2 : Int), (n3 : Int)] [(n0 : Int), (n1 : Int), (n2 : Int), (n3 : Int)] 4 0 = some r ∧ impl_UnitText.time s (n0 : Int) (n1 : Int) (n2 : Int) (n3 : Int) = some r := by
  unfold impl_UnitText.time
  generalize hL : [(n0 : Int), (n1 : Int), (n2 : Int), (n3 : Int)] = L
  have l4 : L.length = 4 := by rw [← hL]; rfl
  have r0 : rd L 0 = (n0 : Int) := by rw [← hL]; rfl
  have r1 : rd L 1 = (n1 : Int) := by rw [← hL]; rfl
  have r2 : rd L 2 = (n2 : Int) := by rw [← hL]; rfl
  have r3 : rd L 3 = (n3 : Int) := by rw [← hL]; rfl
  by_cases e0 : n0 = 0
  · rw [if_pos (by omega)]
    have t0 : spec_UnitText.l0 (j + 5) s L L 4 0 = spec_UnitText.l0 (j + 4) s L L 4 1 := time_skip L l4 s 0 (j + 4) (by omega) (by rw [show ((0 : Nat) : Int) = 0 from rfl, r0]; omega)
    rw [t0]
    by_cases e1 : n1 = 0
    · rw [if_pos (by omega)]
      have t1 : spec_UnitText.l0 (j + 4) s L L 4 1 = spec_UnitText.l0 (j + 3) s L L 4 2 := time_skip L l4 s 1 (j + 3) (by omega) (by rw [show ((1 : Nat) : Int) = 1 from rfl, r1]; omega)
      rw [t1]
      by_cases e2 : n2 = 0
      · rw [if_pos (by omega)]
        have t2 : spec_UnitText.l0 (j + 3) s L L 4 2 = spec_UnitText.l0 (j + 2) s L L 4 3 := time_skip L l4 s 2 (j + 2) (by omega) (by rw [show ((2 : Nat) : Int) = 2 from rfl, r2]; omega)
        rw [t2]
        by_cases e3 : n3 = 0
        · rw [if_pos (by omega)]
          have t3 : spec_UnitText.l0 (j + 2) s L L 4 3 = spec_UnitText.l0 (j + 1) s L L 4 4 := time_skip L l4 s 3 (j + 1) (by omega) (by rw [show ((3 : Nat) : Int) = 3 from rfl, r3]; omega)
          rw [t3]
          refine ⟨(⟨#[48, 115]⟩ : ByteArray), ?_, rfl⟩
          rw [spec_UnitText.l0, if_neg (by omega)]
        · rw [if_neg (by omega)]
          have t3 : spec_UnitText.l0 (j + 2) s L L 4 3 = impl_UnitText.at s (⟨#[115]⟩ : ByteArray) ByteArray.empty (n3 : Int) ((0 : Nat) : Int) := time_step L l4 s hs 3 n3 0 (j + 1) _ ByteArray.empty (by omega) (by omega) r3 e3 (fun h => absurd h (by omega)) (fun _ => rfl) h3 (by omega) rfl rfl (fun h => absurd h (by omega)) (Nat.zero_le 1)
          rw [t3]
          exact ⟨_, at_some s _ _ hs n3 0 h3 (by omega), at_some s _ _ hs n3 0 h3 (by omega)⟩
      · rw [if_neg (by omega)]
        have t2 : spec_UnitText.l0 (j + 3) s L L 4 2 = impl_UnitText.at s (⟨#[109]⟩ : ByteArray) (⟨#[115]⟩ : ByteArray) (n2 : Int) (n3 : Int) := time_step L l4 s hs 2 n2 n3 (j + 2) _ _ (by omega) (by omega) r2 e2 (fun _ => r3) (fun h => absurd h (by omega)) h2 h3 rfl rfl (fun _ => rfl) (Nat.le_refl 1)
        rw [t2]
        exact ⟨_, at_some s _ _ hs n2 n3 h2 h3, at_some s _ _ hs n2 n3 h2 h3⟩
    · rw [if_neg (by omega)]
      have t1 : spec_UnitText.l0 (j + 4) s L L 4 1 = impl_UnitText.at s (⟨#[104]⟩ : ByteArray) (⟨#[109]⟩ : ByteArray) (n1 : Int) (n2 : Int) := time_step L l4 s hs 1 n1 n2 (j + 3) _ _ (by omega) (by omega) r1 e1 (fun _ => r2) (fun h => absurd h (by omega)) h1 h2 rfl rfl (fun _ => rfl) (Nat.le_refl 1)
      rw [t1]
      exact ⟨_, at_some s _ _ hs n1 n2 h1 h2, at_some s _ _ hs n1 n2 h1 h2⟩
  · rw [if_neg (by omega)]
    have t0 : spec_UnitText.l0 (j + 5) s L L 4 0 = impl_UnitText.at s (⟨#[100]⟩ : ByteArray) (⟨#[104]⟩ : ByteArray) (n0 : Int) (n1 : Int) := time_step L l4 s hs 0 n0 n1 (j + 4) _ _ (by omega) (by omega) r0 e0 (fun _ => r1) (fun h => absurd h (by omega)) h0 h1 rfl rfl (fun _ => rfl) (Nat.le_refl 1)
    rw [t0]
    exact ⟨_, at_some s _ _ hs n0 n1 h0 h1, at_some s _ _ hs n0 n1 h0 h1⟩
theorem small_of (l : List ByteArray) (h : ∀ x ∈ l, x.size ≤ 2) (i : Int) : (rdOf ByteArray.empty l i).size ≤ 2 := by
  unfold rdOf
  rw [List.getD_eq_getElem?_getD]
  cases e : l[i.toNat]? with
  | none => exact Nat.zero_le 2
  | some x => exact h x (List.mem_of_getElem? e)
theorem unitsB_small (i : Int) : (rdOf ByteArray.empty unitsB i).size ≤ 2 := small_of unitsB (by intro x hx; simp only [unitsB, List.mem_cons, List.not_mem_nil, or_false] at hx; rcases hx with rfl | rfl | rfl | rfl | rfl | rfl <;> exact Nat.le_refl 2) i
theorem unitsS_small (i : Int) : (rdOf ByteArray.empty unitsS i).size ≤ 2 := small_of unitsS (by intro x hx; simp only [unitsS, List.mem_cons, List.not_mem_nil, or_false] at hx; rcases hx with rfl | rfl | rfl | rfl | rfl | rfl <;> exact Nat.le_succ 1) i
theorem j0_same (a0 a1 : Int) (h : -9223372036854775808 < a0 ∧ a0 ≤ 9223372036854775807) (s : ByteArray) (hs : s.size ≤ 1) (v : Nat) (hv : v ≤ 9223372036854775807) : ∃ r, spec_UnitText.j0 201 a0 a1 s (v : Int) = some r ∧ impl_UnitText.j0 100 a0 a1 s (v : Int) = some r := by
  rw [spec_UnitText.j0, impl_UnitText.j0]
  have q (u : Nat) : Int.tdiv (v : Int) (u : Int) = ((v / u : Nat) : Int) := rfl
  have qm (x u : Nat) : Int.tmod (x : Int) (u : Int) = ((x % u : Nat) : Int) := rfl
  by_cases d1 : a1 = 1
  · rw [if_pos d1, if_pos d1, digits_in a0 (by omega)]
    refine ⟨numB a0, ?_, rfl⟩
    by_cases hneg : a0 < 0
    · obtain ⟨u, rfl⟩ : ∃ u : Nat, a0 = -(u : Int) := ⟨a0.natAbs, by omega⟩
      rw [l2Num_neg 200 u (by omega) (by omega) (by omega)]
      rfl
    · obtain ⟨u, rfl⟩ : ∃ u : Nat, a0 = (u : Int) := ⟨a0.toNat, by omega⟩
      rw [l2Num_nat 200 u (by omega) (by omega)]
      rfl
  rw [if_neg d1, if_neg d1]
  by_cases d4 : a1 = 4
  · subst d4
    have d10 : v / 10 ≤ 9223372036854775807 := div_le v 10 hv
    have m10 : v % 10 ≤ 9 := by omega
    have z1 := numB_size (v / 10) (by omega)
    have z2 := numB_size (v % 10) (by omega)
    have q10 : Int.tdiv (v : Int) 10 = ((v / 10 : Nat) : Int) := rfl
    have m10' : Int.tmod (v : Int) 10 = ((v % 10 : Nat) : Int) := rfl
    rw [if_pos rfl, if_neg (by omega), if_neg (by omega), if_pos rfl]
    unfold impl_UnitText.share
    rw [q10, m10', w64n _ d10, l2Num_nat 200 _ (by omega) d10, digits_in _ (by omega), l2Num_nat 200 _ (by omega) (by omega), digits_in _ (by omega)]
    simp only [Option.bind_some]
    refine ⟨((((s ++ numB ((v / 10 : Nat) : Int)) ++ (⟨#[46]⟩ : ByteArray)) ++ numB ((v % 10 : Nat) : Int)) ++ (⟨#[37]⟩ : ByteArray)), ?_, ?_⟩
    · rw [if_pos (by omega), if_pos (by simp only [ByteArray.size_append]; omega), if_pos (by simp only [ByteArray.size_append, pt_size]; omega), if_pos (by simp only [ByteArray.size_append, pt_size]; omega)]
    · rw [if_pos (by omega)]
  rw [if_neg d4]
  by_cases d5 : a1 = 5
  · subst d5
    rw [if_pos rfl, if_neg (by omega), if_pos rfl]
    obtain ⟨r, h1, h2⟩ := scaled_same 1000 unitsS rfl unitsS_small (by omega) (by decide) (by omega) a0 h 200 100 (by omega) (by omega)
    refine ⟨r, ?_, h2⟩
    rw [show spec_l25Scaled.f 200 a0 1000 _ = some r from h1]
    rfl
  rw [if_neg d5]
  by_cases d2 : a1 = 2
  · subst d2
    rw [if_pos rfl, if_pos rfl]
    obtain ⟨r, h1, h2⟩ := scaled_same 1024 unitsB rfl unitsB_small (by omega) (by decide) (by omega) a0 h 200 100 (by omega) (by omega)
    refine ⟨r, ?_, h2⟩
    rw [show spec_l25Scaled.f 200 a0 1024 _ = some r from h1]
    rfl
  rw [if_neg d2, if_neg d2, if_neg d5, if_neg d4]
  by_cases d3 : a1 = 3
  · rw [if_pos d3, if_pos d3]
    have b1 : v / 86400 ≤ 9223372036854775807 := div_le v _ hv
    have b2 : v / 3600 ≤ 9223372036854775807 := div_le v _ hv
    have b3 : v / 60 ≤ 9223372036854775807 := div_le v _ hv
    have q1 : Int.tdiv (v : Int) 86400 = ((v / 86400 : Nat) : Int) := rfl
    have q2 : Int.tdiv (v : Int) 3600 = ((v / 3600 : Nat) : Int) := rfl
    have q3 : Int.tdiv (v : Int) 60 = ((v / 60 : Nat) : Int) := rfl
    have m1 : Int.tmod ((v / 3600 : Nat) : Int) 24 = ((v / 3600 % 24 : Nat) : Int) := rfl
    have m2 : Int.tmod ((v / 60 : Nat) : Int) 60 = ((v / 60 % 60 : Nat) : Int) := rfl
    have m3 : Int.tmod (v : Int) 60 = ((v % 60 : Nat) : Int) := rfl
    rw [q1, q2, q3, w64n _ b1, w64n _ b2, w64n _ b3, m1, m2, m3]
    obtain ⟨r, h1, h2⟩ := time_same s hs (v / 86400) (v / 3600 % 24) (v / 60 % 60) (v % 60) b1 (by omega) (by omega) (by omega) 195 (by omega)
    exact ⟨r, h1, h2⟩
  · rw [if_neg d3, if_neg d3]
    exact ⟨_, rfl, rfl⟩
theorem same (a0 a1 : Int) (h : -9223372036854775808 ≤ a0 ∧ a0 ≤ 9223372036854775807) : ∃ r, spec_UnitText.f 201 a0 a1 = some r ∧ impl_UnitText.f 100 a0 a1 = some r := by
  rw [spec_UnitText.f, impl_UnitText.f]
  by_cases hm : a0 = -9223372036854775808
  · rw [if_pos hm, if_pos hm]
    exact ⟨_, rfl, rfl⟩
  rw [if_neg hm, if_neg hm]
  by_cases hneg : a0 < 0
  · rw [if_pos hneg, if_pos hneg]
    obtain ⟨v, rfl⟩ : ∃ v : Nat, a0 = -(v : Int) := ⟨a0.natAbs, by omega⟩
    have e : - -(v : Int) = (v : Int) := by omega
    rw [e, w64n v (by omega)]
    exact j0_same _ a1 (by omega) (⟨#[45]⟩ : ByteArray) (Nat.le_refl 1) v (by omega)
  · rw [if_neg hneg, if_neg hneg]
    obtain ⟨v, rfl⟩ : ∃ v : Nat, a0 = (v : Int) := ⟨a0.toNat, by omega⟩
    exact j0_same _ a1 (by omega) (⟨#[]⟩ : ByteArray) (Nat.zero_le 1) v (by omega)
end Go.Proofs.YtdmhdnagaoiclaaDoor.PFnExactUnitText
