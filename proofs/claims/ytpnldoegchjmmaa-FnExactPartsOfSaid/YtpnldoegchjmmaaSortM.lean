/- Labels in the order of their names: one list. (Cut from XPairs.) -/
import Derived.Test.YtpnldoegchjmmaaHSort
namespace Go.Proofs.Ytpnldoegchjmmaa.SortM
open Go.RowKit Go.Proofs.Ytpnldoegchjmmaa.PFnExactPartsOf Go.Proofs.YtpnldoegchjmmaaW.PrintWords Go.Proofs.YtpnldoegchjmmaaW.PrintLast
set_option linter.unusedVariables false
/-! ### In the order of their names -/
def ltN (x y : SL) : Prop := Lib.compareBytes (nameOf x) (nameOf y) < 0
def insM (x : SL) : List SL → List SL
  | [] => [x]
  | y :: ys => if Lib.compareBytes (nameOf x) (nameOf y) ≤ 0 then x :: y :: ys else y :: insM x ys
def sortM (out : List SL) : List SL := out.foldl (fun acc x => insM x acc) []
theorem sortM_snoc (out : List SL) (x : SL) : sortM (out ++ [x]) = insM x (sortM out) := by unfold sortM; rw [List.foldl_append]; rfl
theorem insM_perm (x : SL) : ∀ l, (insM x l).Perm (x :: l)
  | [] => List.Perm.refl _
  | y :: ys => by
    unfold insM
    split
    · exact List.Perm.refl _
    · exact ((insM_perm x ys).cons y).trans (List.Perm.swap x y ys)
theorem fold_perm : ∀ (out acc : List SL), (out.foldl (fun acc x => insM x acc) acc).Perm (out ++ acc)
  | [], acc => List.Perm.refl _
  | x :: xs, acc => by
    rw [List.foldl_cons]
    refine (fold_perm xs (insM x acc)).trans ?_
    refine ((insM_perm x acc).append_left xs).trans ?_
    exact List.perm_middle
theorem sortM_perm (out : List SL) : (sortM out).Perm out := by
  have := fold_perm out []
  rwa [List.append_nil] at this
theorem ltN_trans {x y z : SL} (h1 : ltN x y) (h2 : ltN y z) : ltN x z := (cmp_le_trans _ _ _ (by unfold ltN at h1; omega) (by unfold ltN at h2; omega)).2 (Or.inl h1)
theorem insM_sorted (x : SL) : ∀ l : List SL, l.Pairwise ltN → (∀ y ∈ l, nameOf x ≠ nameOf y) → (insM x l).Pairwise ltN
  | [], _, _ => List.pairwise_singleton _ _
  | y :: ys, h, hn => by
    obtain ⟨h1, h2⟩ := List.pairwise_cons.1 h
    unfold insM
    have hxy := hn y (List.mem_cons_self ..)
    split
    · rename_i hle
      have hlt : ltN x y := by
        unfold ltN
        rcases Int.lt_or_lt_of_ne (fun e => hxy (cmp_eq_zero _ _ e) : Lib.compareBytes (nameOf x) (nameOf y) ≠ 0) with h | h
        · exact h
        · exact absurd h (by omega)
      exact List.pairwise_cons.2 ⟨fun z hz => by
        rcases List.mem_cons.1 hz with rfl | hz
        · exact hlt
        · exact ltN_trans hlt (h1 z hz), h⟩
    · rename_i hgt
      have hyx : ltN y x := by
        unfold ltN
        have := cmp_nlt (nameOf x) (nameOf y) (by omega)
        rcases Int.lt_or_lt_of_ne (fun e => hxy (cmp_eq_zero _ _ e).symm : Lib.compareBytes (nameOf y) (nameOf x) ≠ 0) with h | h
        · exact h
        · exact absurd h (by omega)
      refine List.pairwise_cons.2 ⟨fun z hz => ?_, insM_sorted x ys h2 (fun z hz => hn z (List.mem_cons_of_mem _ hz))⟩
      rcases List.mem_cons.1 ((insM_perm x ys).mem_iff.1 hz) with rfl | hz
      · exact hyx
      · exact h1 z hz
theorem fold_sorted : ∀ (out acc : List SL), acc.Pairwise ltN → ((out ++ acc).map nameOf).Nodup → (out.foldl (fun acc x => insM x acc) acc).Pairwise ltN
  | [], acc, h, _ => h
  | x :: xs, acc, h, hn => by
    rw [List.foldl_cons]
    have hn' : (nameOf x :: (xs ++ acc).map nameOf).Nodup := hn
    obtain ⟨n1, n2⟩ := List.nodup_cons.1 hn'
    refine fold_sorted xs (insM x acc) (insM_sorted x acc h (fun y hy e => n1 (e ▸ List.mem_map.2 ⟨y, List.mem_append.2 (Or.inr hy), rfl⟩))) ?_
    have hp : ((xs ++ insM x acc).map nameOf).Perm (nameOf x :: (xs ++ acc).map nameOf) := by
      have := (((insM_perm x acc).append_left xs).trans List.perm_middle).map nameOf
      exact this
    exact hp.symm.nodup hn'
theorem sortM_sorted (out : List SL) (h : (out.map nameOf).Nodup) : (sortM out).Pairwise ltN := fold_sorted out [] List.Pairwise.nil (by rw [List.append_nil]; exact h)
theorem uniq : ∀ l1 l2 : List SL, l1.Perm l2 → l1.Pairwise ltN → l2.Pairwise ltN → l1 = l2
  | [], l2, hp, _, _ => (List.Perm.nil_eq hp)
  | a :: l1, [], hp, _, _ => absurd hp.symm (by simp)
  | a :: l1, b :: l2, hp, h1, h2 => by
    obtain ⟨a1, a2⟩ := List.pairwise_cons.1 h1
    obtain ⟨b1, b2⟩ := List.pairwise_cons.1 h2
    have e : a = b := by
      have ha : a ∈ b :: l2 := hp.mem_iff.1 (List.mem_cons_self ..)
      have hb : b ∈ a :: l1 := hp.mem_iff.2 (List.mem_cons_self ..)
      rcases List.mem_cons.1 ha with h | h
      · exact h
      · rcases List.mem_cons.1 hb with h' | h'
        · exact h'.symm
        · exact absurd (b1 a h) (cmp_lt_asymm (a1 b h'))
    subst e
    rw [uniq l1 l2 ((List.perm_cons a).1 hp) a2 b2]
theorem sorted_eq {l out : List SL} (hn : (out.map nameOf).Nodup) (hp : l.Perm out) (hs : l.Pairwise (fun x y => ¬ Lib.compareBytes (nameOf y) (nameOf x) < 0)) : l = sortM out := by
  refine uniq l (sortM out) (hp.trans (sortM_perm out).symm) ?_ (sortM_sorted out hn)
  have hn' : (l.map nameOf).Nodup := (hp.map nameOf).symm.nodup hn
  have hn'' : l.Pairwise (fun x y => nameOf x ≠ nameOf y) := List.pairwise_map.1 hn'
  refine (hs.and hn'').imp (fun {x y} h => ?_)
  unfold ltN
  have := cmp_nlt (nameOf y) (nameOf x) h.1
  rcases Int.lt_or_lt_of_ne (fun e => h.2 (cmp_eq_zero _ _ e) : Lib.compareBytes (nameOf x) (nameOf y) ≠ 0) with h' | h'
  · exact h'
  · exact absurd h' (by omega)
end Go.Proofs.Ytpnldoegchjmmaa.SortM
