/- Answers that come from some number of rounds on: lemmas for the plain laws. Of no program. -/
import Derived.Test.YthcamcmjafhehaaDoorWWords
import Derived.Lib.Strings
namespace Go.Proofs.YthcamcmjafhehaaDoor.Evs
open Go.RowKit Go.Proofs.YthcamcmjafhehaaDoorW.PrintWords

theorem w64 {x : Int} (h0 : -9223372036854775808 ≤ x) (h1 : x ≤ 9223372036854775807) : wrap64 x = x := by
  unfold wrap64
  omega

theorem wrap_succ {i n : Nat} (h : i < n) (hn : n ≤ 1048576) : wrap64 ((i : Int) + 1) = ((i + 1 : Nat) : Int) := by
  rw [w64 (by omega) (by omega)]
  omega

theorem wf_i64 {x : Int} (h : (Lit.int .i64 x).wf = true) : -9223372036854775808 ≤ x ∧ x ≤ 9223372036854775807 := by
  simpa [Lit.wf, IntKind.min, IntKind.max, IntKind.signed, IntKind.bits] using h

theorem size_list (s : ByteArray) : s.toList.length = s.size := by
  rw [Lib.toList_data, Array.length_toList]
  rfl

/-- g answers, from some number of rounds on, and P holds of the answer. -/
def EvP {α : Type} (g : Nat → Option α) (P : α → Prop) : Prop := ∃ r, Ev g r ∧ P r

section
variable {α β : Type} {g g' : Nat → Option α} {f : Nat → α → Option β} {P : α → Prop} {Q : β → Prop}
theorem EvP.now {r : α} (h : P r) : EvP (fun _ => some r) P := ⟨r, Ev.now r, h⟩
theorem EvP.of {r : α} (h : Ev g r) (hp : P r) : EvP g P := ⟨r, h, hp⟩
theorem EvP.ev {r : α} (h : EvP g (fun x => x = r)) : Ev g r := by
  obtain ⟨r', h, e⟩ := h
  rw [← e]
  exact h
theorem Ev.evP {r : α} (h : Ev g r) : EvP g (fun x => x = r) := ⟨r, h, rfl⟩
theorem EvP.imp {P' : α → Prop} (h : EvP g P) (k : ∀ a, P a → P' a) : EvP g P' := by
  obtain ⟨r, h, hp⟩ := h
  exact ⟨r, h, k r hp⟩
theorem EvP.bind (h : EvP g P) (k : ∀ a, P a → EvP (fun n => f n a) Q) : EvP (fun n => (g n).bind (f n)) Q := by
  obtain ⟨r, h, hp⟩ := h
  obtain ⟨q, hq, hQ⟩ := k r hp
  exact ⟨q, Ev.bind h hq, hQ⟩
theorem EvP.bindE {r : α} (h : Ev g r) (k : EvP (fun n => f n r) Q) : EvP (fun n => (g n).bind (f n)) Q := EvP.bind (Ev.evP h) (fun a e => by rw [e]; exact k)
theorem EvP.ite {c : Prop} [Decidable c] (h : c → EvP g P) (k : ¬ c → EvP g' P) : EvP (fun n => if c then g n else g' n) P := by
  by_cases hc : c
  · simp only [if_pos hc]
    exact h hc
  · simp only [if_neg hc]
    exact k hc
theorem EvP.pos {c : Prop} [Decidable c] (hc : c) (h : EvP g P) : EvP (fun n => if c then g n else g' n) P := by
  simp only [if_pos hc]
  exact h
theorem EvP.neg {c : Prop} [Decidable c] (hc : ¬ c) (h : EvP g' P) : EvP (fun n => if c then g n else g' n) P := by
  simp only [if_neg hc]
  exact h
theorem EvP.step (h : EvP (fun k => g (k + 1)) P) : EvP g P := by
  obtain ⟨r, h, hp⟩ := h
  exact ⟨r, Ev.step (fun _ => rfl) h, hp⟩
theorem EvP.rounds {r : α} (h : EvP g (fun x => x = r)) : ∃ k, g k = some r := Ev.rounds (EvP.ev h)
end

theorem getD_get {α : Type} (z : α) (l : List α) (i : Nat) (h : i < l.length) : l.getD (i : Int).toNat z = l[i] := by
  rw [Int.toNat_natCast, List.getD_eq_getElem?_getD, List.getElem?_eq_getElem h]
  rfl

theorem rd_get (l : List Int) (i : Nat) (h : i < l.length) : rd l (i : Int) = l[i] := getD_get 0 l i h
theorem rdOf_get {α : Type} (z : α) (l : List α) (i : Nat) (h : i < l.length) : rdOf z l (i : Int) = l[i] := getD_get z l i h

/-- One more element is told over. -/
theorem take_conv {α β : Type} (l : List α) (f : α → β) (acc : List β) (i : Nat) (h : i < l.length) (ha : acc.length = l.length) (ht : acc.take i = (l.take i).map f) :
    (acc.set i (f (l[i]'h))).length = l.length ∧ (acc.set i (f (l[i]'h))).take (i + 1) = (l.take (i + 1)).map f := by
  refine ⟨by rw [List.length_set]; exact ha, ?_⟩
  rw [List.take_succ_eq_append_getElem (by rw [List.length_set]; omega), List.take_succ_eq_append_getElem h, List.map_append, List.getElem_set_self, List.take_set_of_le (Nat.le_refl _), ht]
  rfl
theorem take_all {α β : Type} (l : List α) (f : α → β) (acc : List β) (ha : acc.length = l.length) (ht : acc.take l.length = (l.take l.length).map f) : acc = l.map f := by
  rw [List.take_of_length_le (by omega), List.take_of_length_le (by omega)] at ht
  exact ht

/-! Names -/
def digC (c : Int) : Bool := decide (48 ≤ c) && decide (c ≤ 57)
def letC (c : Int) : Bool := (decide (97 ≤ c) && decide (c ≤ 122)) || (decide (65 ≤ c) && decide (c ≤ 90))
def wordC (c : Int) : Bool := letC c || digC c || (c == 95)
def nameB (s : ByteArray) : Bool := decide (1 ≤ s.size) && decide (s.size ≤ 40) && !digC (bt s 0) && (List.range' 0 s.size).all (fun j => wordC (bt s (j : Int)))
def timeB (t : Int) : Bool := decide (0 ≤ t) && decide (t ≤ 1000000000000)

theorem size_zero {s : ByteArray} (h : s.toList = []) : s.size = 0 := by
  rw [← size_list, h]
  rfl
theorem size_pos {s : ByteArray} (h : ¬ s.toList = []) : 0 < s.size := by
  rw [← size_list]
  exact List.length_pos_iff.2 h
theorem range'_all (i d : Nat) (p : Nat → Bool) : (List.range' i (d + 1)).all p = (p i && (List.range' (i + 1) d).all p) := by rw [List.range'_succ, List.all_cons]

end Go.Proofs.YthcamcmjafhehaaDoor.Evs
