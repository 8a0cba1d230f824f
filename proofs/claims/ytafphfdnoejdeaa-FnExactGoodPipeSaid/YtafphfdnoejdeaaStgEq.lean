/- Parts of one claim's proof, put together (merge.py). -/
import Derived.Test.YtafphfdnoejdeaaHForm
import Derived.Test.YtafphfdnoejdeaaPFnExactGoodPipex7
import Derived.Test.YtafphfdnoejdeaaPFnExactGoodPipex6
import Derived.Test.YtafphfdnoejdeaaPFnExactGoodPipex8
import Derived.Test.YtafphfdnoejdeaaPFnExactGoodPipex3
import Derived.Test.YtafphfdnoejdeaaHStage
import Derived.Test.YtafphfdnoejdeaaNamFnExactGoodPipe
import Derived.Test.YtafphfdnoejdeaaPFnExactGoodPipex10
/- The reference's reading of a form answers as the program's. -/
namespace Go.Proofs.Ytafphfdnoejdeaa.FormEq
open Go.RowKit Go.Proofs.Ytafphfdnoejdeaa.PFnExactGoodPipe Go.Proofs.YtafphfdnoejdeaaW.PrintWords Go.Proofs.YtafphfdnoejdeaaW.PrintLast Go.Proofs.Ytafphfdnoejdeaa.Evs Go.Proofs.Ytafphfdnoejdeaa.AFnExactGoodPipe Go.Proofs.Ytafphfdnoejdeaa.PrtFnExactGoodPipe Go.Proofs.Ytafphfdnoejdeaa.Form
set_option linter.unusedVariables false
theorem bt_ext (p : ByteArray) (a j : Nat) (h : a + j < p.size) : bt (p.extract a p.size) (j : Int) = bt p ((a + j : Nat) : Int) := by
 have hs : (p.extract a p.size).size = p.size - a := by rw [ext_size]; omega
 unfold bt
 rw [dif_pos (by rw [hs]; omega), dif_pos (by omega)]
 congr 2
 show (p.extract a p.size).data[(j : Int).toNat]'_ = p.data[((a + j : Nat) : Int).toNat]'_
 simp only [Int.toNat_natCast, ByteArray.data_extract, Array.getElem_extract]
theorem ext_ext (p : ByteArray) (a k : Nat) (h : a + k ≤ p.size) : (p.extract a p.size).extract 0 k = p.extract a (a + k) := by
 have hp : p.data.size = p.size := rfl
 apply ByteArray.ext
 simp only [ByteArray.data_extract]
 rw [Array.extract_extract]
 congr 1
 omega
theorem ext_ext2 (p : ByteArray) (a k : Nat) (h : a + k ≤ p.size) : (p.extract a p.size).extract k (p.extract a p.size).size = p.extract (a + k) p.size := by
 have hp : p.data.size = p.size := rfl
 rw [ext_size]
 apply ByteArray.ext
 simp only [ByteArray.data_extract]
 rw [Array.extract_extract]
 congr 1
 omega
theorem wordC_eq (c : Int) : wordC c = (letC c || (digC c || (c == 95))) := by unfold wordC; rw [Bool.or_assoc]
theorem nameAt_loop (p : ByteArray) (hp : p.size ≤ 1048576) (a : Nat) : ∀ (d j : Nat), a + j + d = p.size → EvP (fun k => spec_l2NameAt.l0 k p ((a + j : Nat) : Int)) (fun r => r = ((a + wEndD (p.extract a p.size) d j : Nat) : Int)) := by
 intro d
 induction d with
 | zero =>
  intro j h
  refine EvP.step ?_
  simp only [spec_l2NameAt.l0]
  exact EvP.neg (by omega) (EvP.now rfl)
 | succ d ih =>
  intro j h
  have hn := ih (j + 1) (by omega)
  refine EvP.step ?_
  simp only [spec_l2NameAt.l0, spec_l2Letter_ev, spec_l2Digit_ev, Option.bind_some, wrap_succ (show a + j < p.size by omega) hp]
  refine EvP.pos (by omega) (EvP.pos (by omega) ?_)
  unfold wEndD
  rw [bt_ext p a j (by omega), wordC_eq]
  rw [show a + (j + 1) = a + j + 1 by omega] at hn
  generalize bt p ((a + j : Nat) : Int) = c
  cases letC c with
  | true => exact EvP.pos rfl hn
  | false =>
   refine EvP.neg (by decide) ?_
   cases digC c with
   | true => exact EvP.pos rfl hn
   | false =>
    refine EvP.neg (by decide) ?_
    by_cases h9 : c = 95
    ·rw [beq_iff_eq.2 h9]
     exact EvP.pos h9 hn
    ·rw [beq_eq_false_iff_ne.2 h9]
     exact EvP.neg h9 (EvP.now rfl)
theorem nameAt_ev (p : ByteArray) (hp : p.size ≤ 1048576) (a : Nat) (h : a ≤ p.size) : EvP (fun k => spec_l2NameAt.f k p (a : Int)) (fun r => r = ((a + wEnd (p.extract a p.size) : Nat) : Int)) := by
 unfold spec_l2NameAt.f
 have h1 := nameAt_loop p hp a (p.size - a) 0 (by omega)
 have e : (p.extract a p.size).size = p.size - a := by rw [ext_size]; omega
 unfold wEnd
 rw [e]
 exact h1
/-- A form's parts, as the reference keeps them. -/
def encF (out : List SHl) : List (ByteArray × Bool) := out.flatMap (fun h => (if h.f0.toList = [] then [] else [(h.f0, false)]) ++ [(h.f1, true)])
theorem encF_nil : encF [] = [] := rfl
theorem encF_snoc (out : List SHl) (t n : ByteArray) : encF (out ++ [⟨t, n⟩]) = encF out ++ ((if t.toList = [] then [] else [(t, false)]) ++ [(n, true)]) := by
 unfold encF
 rw [List.flatMap_append]
 simp
theorem encF_len : ∀ out : List SHl, out.length ≤ (encF out).length ∧ (encF out).length ≤ 2 * out.length
 | [] => ⟨Nat.le_refl _, Nat.le_refl _⟩
 | h :: hs => by
  have := encF_len hs
  unfold encF at this ⊢
  rw [List.flatMap_cons, List.length_append, List.length_append, List.length_cons]
  split <;> simp only [List.length_cons, List.length_nil] <;> omega
theorem any_enc (n : ByteArray) : ∀ out : List SHl, (encF out).any (fun q => q.2 && decide (q.1.toList = n.toList)) = decide (n.data.toList ∈ out.map (fun h => h.f1.data.toList))
 | [] => rfl
 | h :: hs => by
  have e : encF (h :: hs) = ((if h.f0.toList = [] then [] else [(h.f0, false)]) ++ [(h.f1, true)]) ++ encF hs := by unfold encF; rw [List.flatMap_cons]
  have e1 : (if h.f0.toList = [] then ([] : List (ByteArray × Bool)) else [(h.f0, false)]).any (fun q => q.2 && decide (q.1.toList = n.toList)) = false := by split <;> rfl
  rw [e, List.any_append, List.any_append, e1, any_enc n hs, List.map_cons]
  simp only [List.any_cons, List.any_nil, Bool.or_false, Bool.false_or, Bool.true_and]
  rw [Lib.toList_data, Lib.toList_data]
  by_cases hh : h.f1.data.toList = n.data.toList
  ·rw [decide_eq_true hh, decide_eq_true (List.mem_cons.2 (Or.inl hh.symm) : n.data.toList ∈ h.f1.data.toList :: List.map (fun h => h.f1.data.toList) hs)]; rfl
  ·rw [decide_eq_false hh, Bool.false_or]
   exact decide_eq_decide.2 ⟨fun h1 => List.mem_cons_of_mem _ h1, fun h1 => (List.mem_cons.1 h1).resolve_left (fun e => hh e.symm)⟩
theorem enc_last {out : List SHl} (h : 0 < out.length) : ∃ L n, encF out = L ++ [(n, true)] := by
 rcases List.eq_nil_or_concat out with e | ⟨xs, x, e⟩
 ·rw [e] at h; exact absurd h (by simp)
 ·rw [e, List.concat_eq_append, show xs ++ [x] = xs ++ [⟨x.f0, x.f1⟩] from rfl, encF_snoc]
  exact ⟨encF xs ++ (if x.f0.toList = [] then [] else [(x.f0, false)]), x.f1, by rw [List.append_assoc]⟩
theorem l1_ev (p : ByteArray) (hp : p.size ≤ 1000) (x e : Nat) (h1 : x + 1 ≤ e) (h2 : e ≤ p.size) (L : List (ByteArray × Bool)) (hL : L.length ≤ 1000) (x8 : Int) (Q : List ByteArray × List Bool × Bool → Prop) : ∀ d i : Nat, i + d = L.length →
  ((L.drop i).any (fun q => q.2 && decide (q.1.toList = (p.extract (x + 1) e).toList)) = true → Q ([], [], false)) →
  ((L.drop i).any (fun q => q.2 && decide (q.1.toList = (p.extract (x + 1) e).toList)) = false → EvP (fun k => spec_l22Form.l0 k p (L.map Prod.fst ++ [p.extract (x + 1) e]) (L.map Prod.snd ++ [true]) ⟨#[]⟩ (wrap64 (x8 + 1)) ((e + 1 : Nat) : Int)) Q) →
  EvP (fun k => spec_l22Form.l1 k p (L.map Prod.fst) (L.map Prod.snd) x8 (x : Int) (e : Int) (L.map Prod.fst) ((L.map Prod.fst).length : Int) (i : Int)) Q := by
 intro d
 induction d with
 | zero =>
  intro i h hf hc
  rw [List.drop_of_length_le (by omega)] at hc
  refine EvP.step ?_
  simp only [spec_l22Form.l1, List.length_map, wrap_succ (show x < p.size by omega) (show p.size ≤ 1048576 by omega), Int.toNat_natCast]
  have hw : wrap64 ((e : Int) + 1) = ((e + 1 : Nat) : Int) := by unfold wrap64; omega
  rw [hw]
  exact EvP.neg (by omega) (EvP.pos (by omega) (EvP.pos (by omega) (EvP.pos (by omega) (EvP.pos (by omega) (EvP.pos (by omega) (hc rfl))))))
 | succ d ih =>
  intro i h hf hc
  have hi : i < L.length := by omega
  rw [List.drop_eq_getElem_cons hi, List.any_cons] at hf hc
  refine EvP.step ?_
  simp only [spec_l22Form.l1, List.length_map, wrap_succ (show x < p.size by omega) (show p.size ≤ 1048576 by omega), wrap_succ (show i < L.length from hi) (show L.length ≤ 1048576 by omega), Int.toNat_natCast]
  have g1 : rdOf false (L.map Prod.snd) (i : Int) = L[i].2 := (rdOf_get _ _ i (by rw [List.length_map]; exact hi)).trans (List.getElem_map ..)
  have g2 : rdOf ByteArray.empty (L.map Prod.fst) (i : Int) = L[i].1 := (rdOf_get _ _ i (by rw [List.length_map]; exact hi)).trans (List.getElem_map ..)
  rw [g1, g2]
  have hn := ih (i + 1) (by omega)
  simp only [List.length_map] at hn
  refine EvP.pos (by omega) (EvP.pos (by omega) (EvP.pos (by omega) (EvP.pos (by omega) ?_)))
  refine EvP.ite (fun hb => ?_) (fun hb => ?_)
  ·rw [hb, Bool.true_and] at hf hc
   refine EvP.pos (by omega) (EvP.pos (by omega) (EvP.pos (by omega) ?_))
   refine EvP.ite (fun he => EvP.now (hf (by rw [decide_eq_true he]; rfl))) (fun he => ?_)
   rw [decide_eq_false he, Bool.false_or] at hf hc
   exact hn hf hc
  ·have hb' : L[i].2 = false := by simpa using hb
   rw [hb', Bool.false_and, Bool.false_or] at hf hc
   exact hn hf hc
theorem fq_eq (p : ByteArray) (x : Nat) : fq p x = p.extract (x + 1) p.size := by unfold fq; rfl
theorem name_eq (p : ByteArray) (x : Nat) (hx : x < p.size) : (wordM (fq p x)).1 = p.extract (x + 1) (x + 1 + wEnd (fq p x)) ∧ (wordM (fq p x)).2 = p.extract (x + 1 + wEnd (fq p x)) p.size ∧ x + 1 + wEnd (fq p x) ≤ p.size := by
 have h := wEnd_le (fq p x)
 have hs : (fq p x).size = p.size - (x + 1) := by rw [fq_eq, ext_size]; omega
 rw [hs] at h
 refine ⟨?_, ?_, by omega⟩
 ·unfold wordM
  show (fq p x).extract 0 (wEnd (fq p x)) = _
  generalize wEnd (fq p x) = n at h ⊢
  rw [fq_eq]
  exact ext_ext p (x + 1) n (by omega)
 ·unfold wordM
  show (fq p x).extract (wEnd (fq p x)) (fq p x).size = _
  generalize wEnd (fq p x) = n at h ⊢
  rw [fq_eq]
  exact ext_ext2 p (x + 1) n (by omega)
theorem fok_eq (p : ByteArray) (x e : Nat) (hx : x < p.size) (he : e = x + 1 + wEnd (fq p x)) : fok p x = (nameB (p.extract (x + 1) e) && (decide (e < p.size) && (bt p (e : Int) == 62))) := by
 obtain ⟨h1, h2, h3⟩ := name_eq p x hx
 unfold fok
 rw [h1, h2, ← he]
 congr 1
 unfold gtB
 rw [ext_size]
 by_cases hl : e < p.size
 ·have hb : bt (p.extract e p.size) 0 = bt p (e : Int) := bt_ext p e 0 (by omega)
  rw [decide_eq_true (by omega), decide_eq_true hl, hb]
 ·rw [decide_eq_false (by omega), decide_eq_false hl]; rfl
theorem fdup_eq {p : ByteArray} {x : Nat} {t n : ByteArray} {out : List SHl} (h : (wordM (fq p x)).1 = n) : fdup p x t out = (decide (n.data.toList ∈ out.map (fun h => h.f1.data.toList)) || (decide (t.toList = []) && decide (0 < out.length))) := by
 subst h
 rfl
theorem emp_size : (⟨#[]⟩ : ByteArray).size = 0 := rfl
theorem num_a {P N x e : Nat} (h1 : P + 1 ≤ N + 1 + x) (h2 : x + 1 ≤ e) : P + 1 ≤ N + (e + 1) := by omega
theorem num_b {a x e : Nat} (h1 : a ≤ x) (h2 : x + 1 ≤ e) : a + 1 ≤ e + 1 := by omega
theorem num_w {a P : Nat} (h1 : a ≤ P) (h2 : P ≤ 100) : wrap64 ((a : Int) + 1) = ((a + 1 : Nat) : Int) := by unfold wrap64; omega
theorem num_p {a b : Nat} (h1 : a = b + 1) (h2 : a ≤ 1000) : wrap64 ((a : Int) - 1) = ((b : Nat) : Int) := by unfold wrap64; omega
theorem num_q {a b c : Nat} (h1 : a ≤ 2 * b) (h2 : b ≤ c) (h3 : c ≤ 100) : a ≤ 999 := by omega
theorem num_y {a b : Nat} (h1 : a = b + 1) : (a : Int) > 0 := by omega
theorem num_z {a b : Nat} (h1 : a ≤ 2 * b) (h2 : ¬ 0 < b) : ¬ (a : Int) > 0 := by omega
theorem num_l {a b : Nat} (h1 : a = b + 1) : (b : Int) < (a : Int) := by omega
theorem num_0 (a : Nat) : 0 ≤ (a : Int) := by omega
theorem num_m {a : Nat} (h2 : a ≤ 999) : a < 8796093022208 := by omega
theorem num_n {a : Nat} (h2 : a ≤ 999) : a < 140737488355328 := by omega
theorem len_snoc (out : List SHl) (x : SHl) : (out ++ [x]).length = out.length + 1 := by rw [List.length_append]; rfl
theorem last_ev (p : ByteArray) (hp : p.size ≤ 1000) (x e : Nat) (h1 : x + 1 ≤ e) (h2 : e ≤ p.size) (t n : ByteArray) (out : List SHl) (R : List SHl × Bool)
  (hw8 : wrap64 ((out.length : Int) + 1) = ((out.length + 1 : Nat) : Int))
  (h : EvP (fun k => spec_l22Form.l0 k p ((encF (out ++ [⟨t, n⟩])).map Prod.fst) ((encF (out ++ [⟨t, n⟩])).map Prod.snd) ⟨#[]⟩ ((out.length + 1 : Nat) : Int) ((e + 1 : Nat) : Int)) (fun r => r.2.2 = R.2))
  (L : List (ByteArray × Bool)) (hL : L.length ≤ 1000) (D : Bool) (hd : D = L.any (fun q => q.2 && decide (q.1.toList = (p.extract (x + 1) e).toList))) (hLe : L ++ [(p.extract (x + 1) e, true)] = encF (out ++ [⟨t, n⟩])) :
  EvP (fun k => spec_l22Form.j4 k p (L.map Prod.fst) (L.map Prod.snd) (out.length : Int) (x : Int) (e : Int)) (fun r => r.2.2 = (if D = true then (([], false) : List SHl × Bool) else R).2) := by
 refine EvP.step ?_
 simp only [spec_l22Form.j4]
 refine l1_ev p hp x e h1 h2 L hL _ _ L.length 0 (Nat.zero_add _) (fun hf => ?_) (fun hf => ?_)
 ·rw [List.drop_zero] at hf
  show false = _
  rw [if_pos (hd.trans hf)]
 ·rw [List.drop_zero] at hf
  rw [if_neg (by rw [hd, hf]; decide), hw8]
  rw [← hLe] at h
  simp only [List.map_append, List.map_cons, List.map_nil] at h
  exact h
attribute [local irreducible] wEnd wEndD wordM fok fdup formL encF fq
set_option maxHeartbeats 1000000 in
theorem form_loop (p : ByteArray) (hp : p.size ≤ 100) : ∀ (N x : Nat) (t : ByteArray) (out : List SHl), p.size + 1 ≤ N + x → x ≤ p.size → out.length ≤ x → t.size ≤ x → EvP (fun k => spec_l22Form.l0 k p ((encF out).map Prod.fst) ((encF out).map Prod.snd) t (out.length : Int) (x : Int)) (fun r => r.2.2 = (formL p N (x : Int) t out).2) := by
 intro N
 induction N with
 | zero => intro x t out h1 h2; omega
 | succ N ih =>
  intro x t out hN hx1 ho ht
  have hen := encF_len out
  refine EvP.step ?_
  by_cases hx : x < p.size
  ·have hwx : wrap64 ((x : Int) + 1) = ((x + 1 : Nat) : Int) := wrap_succ hx (by omega)
   rw [formL_step p N x t out hx]
   have hchar : ¬ (bt p x = 60 ∧ fok p x = true) → ∀ e : Int, EvP (fun k => spec_l22Form.j3 k p ((encF out).map Prod.fst) ((encF out).map Prod.snd) t (out.length : Int) (x : Int) e true) (fun r => r.2.2 = (if bt p x = 60 ∧ fok p x = true then (if fdup p x t out = true then ([], false) else formL p N ((x + ((wordM (fq p x)).1.size + 1) + 1 : Nat) : Int) ⟨#[]⟩ (out ++ [⟨t, (wordM (fq p x)).1⟩])) else formL p N ((x + 1 : Nat) : Int) (t ++ p.extract (x : Int).toNat ((x : Int) + 1).toNat) out).2) := fun hn e => by
    rw [if_neg hn]
    refine EvP.step ?_
    have ez : (t ++ p.extract (x : Int).toNat ((x : Int) + 1).toNat).size ≤ x + 1 := by rw [ByteArray.size_append, ext_size]; omega
    have h := ih (x + 1) (t ++ p.extract (x : Int).toNat ((x : Int) + 1).toNat) out (by omega) hx (by omega) ez
    simp only [spec_l22Form.j3, hwx]
    rw [show (((x + 1 : Nat) : Int)).toNat = ((x : Int) + 1).toNat by omega]
    rw [ByteArray.size_append] at ez
    exact EvP.pos (by first | rfl | trivial) (EvP.pos (by omega) (EvP.pos (by omega) (EvP.pos (by omega) (EvP.pos (by omega) h))))
   simp only [spec_l22Form.l0, hwx]
   refine EvP.pos (by omega) (EvP.pos (by omega) ?_)
   by_cases h60 : bt p (x : Int) = 60
   ·refine EvP.pos h60 (EvP.bind (nameAt_ev p (by omega) (x + 1) (by omega)) (fun e' ee => ?_))
    rw [← fq_eq] at ee
    obtain ⟨e, he⟩ : ∃ e, e = x + 1 + wEnd (fq p x) := ⟨_, rfl⟩
    rw [← he] at ee
    subst ee
    obtain ⟨n1, n2, n3⟩ := name_eq p x hx
    rw [← he] at n1 n2 n3
    have hfk := fok_eq p x e hx he
    refine EvP.step ?_
    simp only [spec_l22Form.j2, hwx, Int.toNat_natCast]
    refine EvP.pos (by omega) (EvP.pos (by omega) (EvP.pos h60 ?_))
    by_cases hl : e < p.size
    ·rw [decide_eq_true hl, Bool.true_and] at hfk
     refine EvP.neg (by omega) (EvP.pos (by omega) (EvP.pos (by omega) ?_))
     by_cases h62 : bt p (e : Int) = 62
     ·rw [beq_iff_eq.2 h62, Bool.and_true] at hfk
      refine EvP.pos h62 (EvP.pos (by omega) (EvP.pos (by omega) (EvP.pos (by omega) (EvP.bind (spec_l2Name_ev _) (fun b eb => ?_)))))
      rw [← hfk] at eb
      cases b with
      | false => exact hchar (fun h => by rw [← eb] at h; exact absurd h.2 (by decide)) _
      | true =>
       have hk : fok p x = true := eb.symm
       rw [if_pos (⟨h60, hk⟩ : bt p (x : Int) = 60 ∧ fok p x = true)]
       have hfs : (wordM (fq p x)).1.size = e - (x + 1) := by rw [n1, ext_size]; omega
       have hxx : x + ((wordM (fq p x)).1.size + 1) + 1 = e + 1 := by omega
       rw [hxx]
       have hw8 : wrap64 ((out.length : Int) + 1) = ((out.length + 1 : Nat) : Int) := num_w (Nat.le_trans ho hx1) hp
       refine EvP.step ?_
       simp only [spec_l22Form.j3, Bool.not_true]
       refine EvP.neg (by decide) ?_
       have hlast := last_ev p (Nat.le_trans hp (by decide)) x e (by rw [he]; exact Nat.le_add_right _ _) n3 t (wordM (fq p x)).1 out (formL p N ((e + 1 : Nat) : Int) ⟨#[]⟩ (out ++ [⟨t, (wordM (fq p x)).1⟩])) hw8 (by
        have h := ih (e + 1) ⟨#[]⟩ (out ++ [⟨t, (wordM (fq p x)).1⟩]) (num_a hN (by rw [he]; exact Nat.le_add_right _ _)) (Nat.succ_le_of_lt hl) (by rw [len_snoc]; exact num_b ho (by rw [he]; exact Nat.le_add_right _ _)) (by rw [emp_size]; exact Nat.zero_le _)
        rw [len_snoc] at h
        exact h)
       have hfd := fdup_eq (t := t) (out := out) n1
       rw [← any_enc (p.extract (x + 1) e) out] at hfd
       have hel : (encF out).length ≤ 999 := num_q hen.2 (Nat.le_trans ho hx1) hp
       refine EvP.ite (fun hte => ?_) (fun hte => ?_)
       ·by_cases hol : 0 < out.length
        ·obtain ⟨L, n, hLn⟩ := enc_last hol
         have hd : fdup p x t out = true := hfd.trans (by rw [decide_eq_true hte, decide_eq_true hol, Bool.and_true, Bool.or_true])
         have hLl : (encF out).length = L.length + 1 := by rw [hLn, List.length_append]; rfl
         have hwl : wrap64 ((((encF out).map Prod.fst).length : Int) - 1) = ((L.length : Nat) : Int) := by rw [List.length_map]; exact num_p hLl (Nat.le_trans hel (by decide))
         have hg : rdOf false ((encF out).map Prod.snd) (L.length : Int) = true := by
          rw [hLn, List.map_append, rdOf_get false _ L.length (by simp)]
          rw [List.getElem_append_right (by simp)]
          simp
         rw [hwl, hg, hd, if_pos rfl]
         exact EvP.pos (by rw [List.length_map]; exact num_y hLl) (EvP.pos (num_0 _) (EvP.pos (by rw [List.length_map]; exact num_l hLl) (EvP.pos rfl (EvP.now rfl))))
        ·refine EvP.neg (by rw [List.length_map]; exact num_z hen.2 hol) (hlast (encF out) (Nat.le_trans hel (by decide)) _ ?_ ?_)
         ·exact hfd.trans (by rw [decide_eq_false hol, Bool.and_false, Bool.or_false])
         ·rw [encF_snoc, if_pos hte, ← n1]; simp
       ·refine EvP.pos (by rw [List.length_map]; exact num_m hel) (EvP.pos (by rw [List.length_map]; exact num_n hel) ?_)
        have h := hlast (encF out ++ [(t, false)]) (by rw [List.length_append]; exact Nat.succ_le_succ hel) _ (hfd.trans (by rw [List.any_append, decide_eq_false hte, Bool.false_and, Bool.or_false, List.any_cons, List.any_nil, Bool.false_and, Bool.or_false, Bool.or_false])) (by rw [encF_snoc, if_neg hte, ← n1]; simp)
        simp only [List.map_append, List.map_cons, List.map_nil] at h
        exact h
     ·exact EvP.neg h62 (hchar (fun h => by rw [hfk, beq_eq_false_iff_ne.2 h62, Bool.and_false] at h; exact absurd h.2 (by decide)) _)
    ·rw [decide_eq_false hl, Bool.false_and, Bool.and_false] at hfk
     exact EvP.pos (by omega) (hchar (fun h => by rw [hfk] at h; exact absurd h.2 (by decide)) _)
   ·refine EvP.neg h60 (EvP.step ?_)
    simp only [spec_l22Form.j2]
    exact EvP.pos (by omega) (EvP.pos (by omega) (EvP.neg h60 (hchar (fun h => h60 h.1) _)))
  ·have hf : (formL p (N + 1) (x : Int) t out).2 = decide (0 < out.length) := by unfold formL; rw [if_neg (by omega)]
   rw [hf]
   have hd : decide ((out.length : Int) > 0) = decide (0 < out.length) := decide_eq_decide.2 (by omega)
   simp only [spec_l22Form.l0]
   refine EvP.neg (by omega) (EvP.ite (fun hte => EvP.now hd) (fun hte => EvP.pos (by rw [List.length_map]; omega) (EvP.pos (by rw [List.length_map]; omega) (EvP.now hd))))
theorem form_ev (p : ByteArray) : EvP (fun k => spec_l22Form.f k p) (fun r => r.2.2 = (formM p).2) := by
 unfold spec_l22Form.f formM
 have bad : EvP (fun k => spec_l22Form.j0 k p ([] : List ByteArray) ([] : List Bool) (⟨#[]⟩ : ByteArray) true) (fun r => r.2.2 = false) := EvP.step (by simp only [spec_l22Form.j0]; exact EvP.pos (by first | rfl | trivial) (EvP.now rfl))
 by_cases h0 : p.toList = []
 ·have hs := size_zero h0
  rw [decide_eq_true h0]
  exact EvP.pos (by omega) bad
 ·have hs : p.size ≠ 0 := fun h => h0 (by rw [Lib.toList_data]; have : p.data.size = 0 := h; rw [Array.size_eq_zero_iff.1 this])
  rw [decide_eq_false h0, Bool.false_or]
  refine EvP.neg (by omega) (EvP.bind (P := fun r => r = (decide (p.size ≤ 100) && printedB p)) ?_ (fun b eb => ?_))
  ·unfold spec_l22Text.f
   refine EvP.ite (fun h => ?_) (fun h => EvP.now (by rw [decide_eq_false (by omega)]; rfl))
   rw [decide_eq_true (by omega : p.size ≤ 100), Bool.true_and]
   exact EvP.bind (specPrinted_ev p (by omega)) (fun b e => EvP.now e)
  ·rw [← eb]
   cases b with
   | false => exact bad
   | true =>
    have h100 : p.size ≤ 100 := by have h := eb.symm; simp only [Bool.and_eq_true, decide_eq_true_eq] at h; exact h.1
    refine EvP.step ?_
    simp only [spec_l22Form.j0, Bool.not_true]
    refine EvP.neg (by decide) ?_
    rw [if_neg Bool.false_ne_true]
    have h := form_loop p h100 (p.size + 1) 0 ⟨#[]⟩ [] (by omega) (by omega) (Nat.zero_le _) (Nat.zero_le _)
    rw [encF_nil] at h
    exact h
end Go.Proofs.Ytafphfdnoejdeaa.FormEq
/- Templates of a line: the reference and the program ask the same of a text. -/
namespace Go.Proofs.Ytafphfdnoejdeaa.TplEq
open Go.RowKit Go.Proofs.Ytafphfdnoejdeaa.PFnExactGoodPipe Go.Proofs.YtafphfdnoejdeaaW.PrintWords Go.Proofs.YtafphfdnoejdeaaW.PrintLast Go.Proofs.Ytafphfdnoejdeaa.Evs Go.Proofs.Ytafphfdnoejdeaa.AFnExactGoodPipe Go.Proofs.Ytafphfdnoejdeaa.PrtFnExactGoodPipe Go.Proofs.Ytafphfdnoejdeaa.Form Go.Proofs.Ytafphfdnoejdeaa.FormEq
set_option linter.unusedVariables false
def preB (b : UInt8) (q : ByteArray) : Bool := decide (1 ≤ q.size) && (bt q 0 == (b.toNat : Int))
theorem prefix_ev (b : UInt8) (q : ByteArray) : strings_HasPrefix.f q ⟨#[b]⟩ = some (preB b q) := by
 unfold strings_HasPrefix.f stringslite_HasPrefix.f preB
 by_cases h : 1 ≤ q.size
 ·have h1 : (q.size : Int) ≥ (((⟨#[b]⟩ : ByteArray).size : Nat) : Int) := by show (q.size : Int) ≥ ((1 : Nat) : Int); omega
  rw [if_pos h1, if_pos (by omega), if_pos h1, decide_eq_true h, Bool.true_and, Option.bind_some]
  congr 1
  show ((q.extract 0 1).toList == (⟨#[b]⟩ : ByteArray).toList) = _
  rw [Lib.toList_data, Lib.toList_data, Lib.extract_data]
  obtain ⟨e1, e2⟩ := bt_head q h
  rw [e1, e2]
  show (([q.data.toList.headD 0] : List UInt8) == [b]) = _
  generalize q.data.toList.headD 0 = a
  by_cases ha : a = b
  ·subst ha; rw [beq_self_eq_true, beq_self_eq_true]
  ·rw [beq_eq_false_iff_ne.2 (by simpa using ha), eq_comm, beq_eq_false_iff_ne]
   intro hn
   exact ha (UInt8.toNat_inj.1 (by omega))
 ·rw [if_neg (by show ¬ (q.size : Int) ≥ ((1 : Nat) : Int); omega), decide_eq_false h]
  rfl
/-- Where the word behind place x ends. -/
def wAt (p : ByteArray) (x : Nat) : Nat := x + 1 + wEnd (fq p x)
def tplL (p : ByteArray) : Nat → Nat → Bool
 | 0, _ => false
 | n + 1, x => if x < p.size then (if bt p (x : Int) = 123 then (if x + 1 < p.size ∧ bt p ((x + 1 : Nat) : Int) = 123 then tplL p n (x + 2) else (if wAt p x < p.size ∧ bt p (wAt p x : Int) = 125 ∧ nameB (p.extract (x + 1) (wAt p x)) = true then tplL p n (wAt p x + 1) else false)) else tplL p n (x + 1)) else true
def tplB (p : ByteArray) : Bool := (decide ((p.size : Int) ≤ 200) && printedB p) && tplL p (p.size + 1) 0
theorem wAt_ge (p : ByteArray) (x : Nat) : x + 1 ≤ wAt p x := Nat.le_add_right _ _
theorem name_at (p : ByteArray) (x : Nat) (hx : x < p.size) : (wordM (fq p x)).1 = p.extract (x + 1) (wAt p x) ∧ (wordM (fq p x)).2 = p.extract (wAt p x) p.size ∧ wAt p x ≤ p.size := name_eq p x hx
theorem pre_at (b : UInt8) (p : ByteArray) (e : Nat) : preB b (p.extract e p.size) = (decide (e < p.size) && (bt p (e : Int) == (b.toNat : Int))) := by
 unfold preB
 rw [ext_size]
 by_cases hl : e < p.size
 ·have hb : bt (p.extract e p.size) 0 = bt p (e : Int) := bt_ext p e 0 (by omega)
  rw [decide_eq_true (by omega), decide_eq_true hl, hb]
 ·rw [decide_eq_false (by omega), decide_eq_false hl]; rfl
theorem num_2 {a P : Nat} (h1 : a ≤ P) (h2 : P ≤ 200) : wrap64 ((a : Int) + 1) = ((a + 1 : Nat) : Int) := by unfold wrap64; omega
theorem num_3 {x e s P : Nat} (h1 : x + 1 ≤ e) (h3 : s = e - (x + 1)) (h4 : e ≤ P) (h2 : P ≤ 200) : wrap64 (wrap64 ((x : Int) + wrap64 ((s : Int) + 1)) + 1) = ((e + 1 : Nat) : Int) := by
 rw [show wrap64 ((s : Int) + 1) = ((s + 1 : Nat) : Int) from num_2 (by omega : s ≤ P) h2, show wrap64 ((x : Int) + ((s + 1 : Nat) : Int)) = ((e : Nat) : Int) by unfold wrap64; omega]
 exact num_2 h4 h2
theorem num_w2 {x P : Nat} (h1 : x < P) (h2 : P ≤ 200) : wrap64 (wrap64 ((x : Int) + 1) + 1) = ((x + 2 : Nat) : Int) := by unfold wrap64; omega
attribute [local irreducible] wAt wEnd wordM fq nameB
theorem impl_loop (p : ByteArray) (hp : p.size ≤ 200) : ∀ (N x : Nat), p.size + 1 ≤ N + x → x ≤ p.size → EvP (fun k => impl_GoodTemplate.l0 k p (x : Int)) (fun r => r = tplL p N x) := by
 intro N
 induction N with
 | zero => intro x h1 h2; omega
 | succ N ih =>
  intro x hN hx1
  refine EvP.step ?_
  unfold tplL
  by_cases hx : x < p.size
  ·rw [if_pos hx]
   have hwx : wrap64 ((x : Int) + 1) = ((x + 1 : Nat) : Int) := num_2 hx1 hp
   have hw2 := num_w2 hx hp
   rw [hwx] at hw2
   simp only [impl_GoodTemplate.l0, hwx, prefix_ev, Option.bind_some, hw2]
   refine EvP.pos (by omega) (EvP.pos (by omega) (EvP.ite (fun hc => ?_) (fun hc => ?_)))
   ·rw [if_pos hc]
    refine EvP.pos (by omega) (EvP.pos (by omega) ?_)
    rw [Int.toNat_natCast, pre_at]
    by_cases h2 : x + 1 < p.size ∧ bt p ((x + 1 : Nat) : Int) = 123
    ·rw [if_pos h2]
     refine EvP.pos ?_ (ih (x + 2) (by omega) (by omega))
     rw [decide_eq_true h2.1, Bool.true_and]
     exact beq_iff_eq.2 h2.2
    ·rw [if_neg h2]
     refine EvP.neg ?_ ?_
     ·intro h
      rw [Bool.and_eq_true, decide_eq_true_eq, beq_iff_eq] at h
      exact h2 h
     ·have hwo := wordOf_ev (p.extract (x + 1) p.size) (by rw [ext_size]; omega)
      refine EvP.bind hwo (fun t et => ?_)
      rw [← fq_eq] at et
      obtain ⟨n1, n2, n3⟩ := name_at p x hx
      have hge := wAt_ge p x
      rw [et, n1, n2]
      have hes : (p.extract (x + 1) (wAt p x)).size = wAt p x - (x + 1) := by rw [ext_size]; omega
      generalize wAt p x = e at *
      refine EvP.bind (impl_isName_ev _) (fun b eb => ?_)
      subst eb
      rw [num_3 hge hes n3 hp, pre_at]
      cases hb : nameB (p.extract (x + 1) e) with
      | false =>
       rw [if_neg (fun h => absurd h.2.2 (by decide))]
       exact EvP.neg (by decide) (EvP.now rfl)
      | true =>
       refine EvP.pos rfl ?_
       by_cases h3 : e < p.size ∧ bt p (e : Int) = 125
       ·rw [if_pos ⟨h3.1, h3.2, rfl⟩]
        refine EvP.pos ?_ (ih (e + 1) (by omega) (by omega))
        rw [decide_eq_true h3.1, Bool.true_and]
        exact beq_iff_eq.2 h3.2
       ·rw [if_neg (fun h => h3 ⟨h.1, h.2.1⟩)]
        refine EvP.neg ?_ (EvP.now rfl)
        intro h
        rw [Bool.and_eq_true, decide_eq_true_eq, beq_iff_eq] at h
        exact h3 h
   ·rw [if_neg hc]
    exact ih (x + 1) (by omega) (by omega)
  ·rw [if_neg hx]
   simp only [impl_GoodTemplate.l0]
   exact EvP.neg (by omega) (EvP.now rfl)
theorem implTpl_ev (p : ByteArray) : EvP (fun k => impl_GoodTemplate.f k p) (fun r => r = tplB p) := by
 unfold impl_GoodTemplate.f tplB
 refine EvP.bind (implPrinted_ev p 200 (by omega)) (fun t e => ?_)
 subst e
 by_cases h : (p.size : Int) ≤ 200
 ·cases hb : decide ((p.size : Int) ≤ 200) && printedB p with
  | false => exact EvP.neg (by decide) (EvP.now rfl)
  | true => exact EvP.pos rfl (by rw [Bool.true_and]; exact impl_loop p (by omega) (p.size + 1) 0 (by omega) (by omega))
 ·rw [decide_eq_false h, Bool.false_and]
  exact EvP.neg (by decide) (EvP.now rfl)
theorem num_k {a x P : Nat} (h1 : a ≤ x) (h2 : x ≤ P) (h3 : P ≤ 200) : a < 8796093022208 ∧ a < 140737488355328 := by omega
theorem spec_loop (p : ByteArray) (hp : p.size ≤ 200) : ∀ (N x : Nat) (L : List ByteArray) (M : List Bool), p.size + 1 ≤ N + x → x ≤ p.size → L.length ≤ x → M.length ≤ x → EvP (fun k => spec_l18Parts.l0 k p L M (x : Int)) (fun r => r.2.2 = tplL p N x) := by
 intro N
 induction N with
 | zero => intro x L M h1 h2; omega
 | succ N ih =>
  intro x L M hN hx1 hL hM
  obtain ⟨kL, _⟩ := num_k hL hx1 hp
  obtain ⟨_, kM⟩ := num_k hM hx1 hp
  refine EvP.step ?_
  unfold tplL
  by_cases hx : x < p.size
  ·rw [if_pos hx]
   have hwx : wrap64 ((x : Int) + 1) = ((x + 1 : Nat) : Int) := num_2 hx1 hp
   have hw2 := num_w2 hx hp
   rw [hwx] at hw2
   simp only [spec_l18Parts.l0, hwx]
   refine EvP.pos (by omega) (EvP.pos (by omega) (EvP.ite (fun hc => ?_) (fun hc => ?_)))
   ·rw [if_pos hc]
    have hno : ¬ (x + 1 < p.size ∧ bt p ((x + 1 : Nat) : Int) = 123) → EvP (fun k => spec_l18Parts.j2 k p L M (x : Int) false) (fun r => r.2.2 = (if x + 1 < p.size ∧ bt p ((x + 1 : Nat) : Int) = 123 then tplL p N (x + 2) else (if wAt p x < p.size ∧ bt p (wAt p x : Int) = 125 ∧ nameB (p.extract (x + 1) (wAt p x)) = true then tplL p N (wAt p x + 1) else false))) := fun h2 => by
     rw [if_neg h2]
     refine EvP.step ?_
     simp only [spec_l18Parts.j2, hwx]
     refine EvP.neg (by decide) ?_
     refine EvP.bind (nameAt_ev p (by omega) (x + 1) (by omega)) (fun t et => ?_)
     rw [← fq_eq] at et
     obtain ⟨n1, n2, n3⟩ := name_at p x hx
     have hge := wAt_ge p x
     have et : t = ((wAt p x : Nat) : Int) := et.trans (by unfold wAt; rfl)
     subst et
     generalize wAt p x = e at *
     refine EvP.ite (fun h => ?_) (fun h => ?_)
     ·rw [if_neg (fun h3 => absurd h3.1 (by omega))]
      exact EvP.now rfl
     ·refine EvP.pos (by omega) (EvP.pos (by omega) (EvP.ite (fun h3 => ?_) (fun h3 => ?_)))
      ·refine EvP.pos (by omega) (EvP.pos (by omega) (EvP.pos (by omega) ?_))
       rw [Int.toNat_natCast, Int.toNat_natCast]
       refine EvP.bind (spec_l2Name_ev _) (fun b eb => ?_)
       subst eb
       cases hb : nameB (p.extract (x + 1) e) with
       | false =>
        rw [if_neg (fun h => absurd h.2.2 (by decide))]
        exact EvP.neg (by decide) (EvP.now rfl)
       | true =>
        rw [if_pos ⟨by omega, h3, rfl⟩, num_2 n3 hp]
        exact EvP.pos rfl (EvP.pos kL (EvP.pos kM (ih (e + 1) _ _ (by omega) (by omega) (by rw [List.length_append]; exact Nat.succ_le_succ (by omega)) (by rw [List.length_append]; exact Nat.succ_le_succ (by omega)))))
      ·rw [if_neg (fun h4 => h3 h4.2.1)]
       exact EvP.now rfl
    refine EvP.ite (fun hl => ?_) (fun hl => hno (fun h => hl (by omega)))
    refine EvP.pos (by omega) ?_
    by_cases h2 : bt p ((x + 1 : Nat) : Int) = 123
    ·rw [if_pos ⟨by omega, h2⟩, beq_iff_eq.2 h2]
     refine EvP.step ?_
     simp only [spec_l18Parts.j2, hwx, hw2]
     exact EvP.pos (by first | rfl | trivial) (EvP.pos kL (EvP.pos kM (ih (x + 2) _ _ (by omega) (by omega) (by rw [List.length_append]; exact Nat.succ_le_succ (by omega)) (by rw [List.length_append]; exact Nat.succ_le_succ (by omega)))))
    ·rw [beq_eq_false_iff_ne.2 h2]
     exact hno (fun h => h2 h.2)
   ·rw [if_neg hc]
    exact EvP.pos (by omega) (EvP.pos (by omega) (EvP.pos kL (EvP.pos kM (ih (x + 1) _ _ (by omega) (by omega) (by rw [List.length_append]; exact Nat.succ_le_succ hL) (by rw [List.length_append]; exact Nat.succ_le_succ hM)))))
  ·rw [if_neg hx]
   simp only [spec_l18Parts.l0]
   exact EvP.neg (by omega) (EvP.now rfl)
theorem specTpl_ev (p : ByteArray) : EvP (fun k => spec_GoodTemplate.f k p) (fun r => r = tplB p) := by
 unfold spec_GoodTemplate.f
 refine EvP.bind (P := fun r => r.2.2 = tplB p) ?_ (fun t e => EvP.now e)
 unfold spec_l18Parts.f tplB
 have bad : EvP (fun k => spec_l18Parts.j0 k p ([] : List ByteArray) ([] : List Bool) true) (fun r => r.2.2 = false) := EvP.step (by simp only [spec_l18Parts.j0]; exact EvP.pos (by first | rfl | trivial) (EvP.now rfl))
 refine EvP.ite (fun h => ?_) (fun h => ?_)
 ·rw [decide_eq_false (by omega)]
  exact bad
 ·rw [decide_eq_true (by omega : (p.size : Int) ≤ 200), Bool.true_and]
  refine EvP.bind (specPrinted_ev p (by omega)) (fun t e => ?_)
  subst e
  cases printedB p with
  | false => exact bad
  | true =>
   refine EvP.step ?_
   simp only [spec_l18Parts.j0, Bool.not_true]
   refine EvP.neg (by decide) ?_
   rw [Bool.true_and]
   exact spec_loop p (by omega) (p.size + 1) 0 [] [] (by omega) (by omega) (Nat.zero_le _) (Nat.zero_le _)
end Go.Proofs.Ytafphfdnoejdeaa.TplEq
/- Stages of a pipe: the reference and the program ask the same of a stage. -/
namespace Go.Proofs.Ytafphfdnoejdeaa.StgEq
open Go.RowKit Go.Proofs.Ytafphfdnoejdeaa.PFnExactGoodPipe Go.Proofs.YtafphfdnoejdeaaW.PrintWords Go.Proofs.YtafphfdnoejdeaaW.PrintLast Go.Proofs.Ytafphfdnoejdeaa.Evs Go.Proofs.Ytafphfdnoejdeaa.AFnExactGoodPipe Go.Proofs.Ytafphfdnoejdeaa.PrtFnExactGoodPipe Go.Proofs.Ytafphfdnoejdeaa.Form Go.Proofs.Ytafphfdnoejdeaa.FormEq Go.Proofs.Ytafphfdnoejdeaa.MatFnExactGoodPipe Go.Proofs.Ytafphfdnoejdeaa.NamFnExactGoodPipe Go.Proofs.Ytafphfdnoejdeaa.TplEq
set_option linter.unusedVariables false
abbrev Z8 := Int × ByteArray × ByteArray × Int × ByteArray × Int × Int × List ByteArray
def E0 : ByteArray := ⟨#[]⟩
def zeroM (a0 : Int) (a1 a2 : ByteArray) (a3 : Int) (a4 : ByteArray) (a5 a6 : Int) (l7 : List ByteArray) : Z8 :=
 if a0 = 1 ∨ a0 = 2 ∨ a0 = 3 ∨ a0 = 4 ∨ a0 = 6 ∨ a0 = 9 then (a0, a1, E0, 0, E0, 0, 0, [])
 else if a0 = 7 then (a0, E0, a2, a3, a4, 0, 0, [])
 else if a0 = 8 then (a0, E0, a2, 0, E0, a5, a6, [])
 else if a0 = 10 ∨ a0 = 11 then (a0, E0, E0, 0, E0, 0, 0, l7)
 else (a0, E0, E0, 0, E0, 0, 0, [])
theorem zero_ev (a0 : Int) (a1 a2 : ByteArray) (a3 : Int) (a4 : ByteArray) (a5 a6 : Int) (l7 : List ByteArray) : EvP (fun k => spec_l22Zero.f k a0 a1 a2 a3 a4 a5 a6 l7) (fun r => r = zeroM a0 a1 a2 a3 a4 a5 a6 l7) := by
 have hj : ∀ b : Bool, (b = true ↔ (a0 = 1 ∨ a0 = 2 ∨ a0 = 3 ∨ a0 = 4 ∨ a0 = 6 ∨ a0 = 9)) → EvP (fun k => spec_l22Zero.j0 k a0 b a0 a1 a2 a3 a4 a5 a6 l7 a0 (⟨#[]⟩ : ByteArray) (⟨#[]⟩ : ByteArray) 0 (⟨#[]⟩ : ByteArray) 0 0) (fun r => r = zeroM a0 a1 a2 a3 a4 a5 a6 l7) := fun b hb => by
  refine EvP.step ?_
  simp only [spec_l22Zero.j0]
  unfold zeroM
  refine EvP.ite (fun h => ?_) (fun h => ?_)
  ·rw [if_pos (hb.1 h)]
   exact EvP.now rfl
  ·rw [if_neg (fun h2 => h (hb.2 h2))]
   refine EvP.ite (fun h1 => EvP.now (by rw [if_pos h1]; rfl)) (fun h1 => ?_)
   rw [if_neg h1]
   refine EvP.ite (fun h2 => EvP.now (by rw [if_pos h2]; rfl)) (fun h2 => ?_)
   rw [if_neg h2]
   refine EvP.ite (fun h3 => EvP.now (by rw [if_pos (Or.inl h3)]; rfl)) (fun h3 => ?_)
   refine EvP.ite (fun h4 => EvP.now (by rw [if_pos (Or.inr h4)]; rfl)) (fun h4 => ?_)
   rw [if_neg (fun h => h.elim h3 h4)]
   exact EvP.now rfl
 unfold spec_l22Zero.f
 refine EvP.ite (fun h => hj _ ⟨fun _ => by omega, fun _ => beq_iff_eq.2 h⟩) (fun h1 => ?_)
 refine EvP.ite (fun h => hj _ ⟨fun _ => by omega, fun _ => beq_iff_eq.2 h⟩) (fun h2 => ?_)
 refine EvP.ite (fun h => hj _ ⟨fun _ => by omega, fun _ => beq_iff_eq.2 h⟩) (fun h3 => ?_)
 refine EvP.ite (fun h => hj _ ⟨fun _ => by omega, fun _ => beq_iff_eq.2 h⟩) (fun h4 => ?_)
 refine EvP.ite (fun h => hj _ ⟨fun _ => by omega, fun _ => beq_iff_eq.2 h⟩) (fun h5 => ?_)
 exact hj _ ⟨fun h => by have := beq_iff_eq.1 h; omega, fun h => beq_iff_eq.2 (by omega)⟩
/-- What a stage of its kind is asked, when no other field is set. -/
def kindB (a0 : Int) (a1 a2 : ByteArray) (a3 : Int) (a4 : ByteArray) (a5 : Int) (l7 : List ByteArray) : Bool :=
 if a0 = 1 then !emB a1 && (decide ((a1.size : Int) ≤ 100) && printedB a1)
 else if a0 = 2 then !emB a1 && (decide ((a1.size : Int) ≤ 100) && printedB a1)
 else if a0 = 3 then !emB a1 && patB a1
 else if a0 = 4 then !emB a1 && patB a1
 else if a0 = 5 then true
 else if a0 = 6 then (formM a1).2
 else if a0 = 7 then matB ⟨a2, a3, a4⟩
 else if a0 = 8 then nameB a2 && cmpB a5
 else if a0 = 9 then tplB a1
 else if a0 = 10 then decide (0 < l7.length) && namesB l7
 else if a0 = 11 then decide (0 < l7.length) && namesB l7
 else false
theorem l22Text_ev (s : ByteArray) (m : Int) (hm : m ≤ 1048576) : EvP (fun k => spec_l22Text.f k s m) (fun r => r = (decide ((s.size : Int) ≤ m) && printedB s)) := by
 unfold spec_l22Text.f
 refine EvP.ite (fun h => ?_) (fun h => EvP.now (by rw [decide_eq_false h, Bool.false_and]))
 rw [decide_eq_true h, Bool.true_and]
 exact EvP.bind (specPrinted_ev s (by omega)) (fun t e => EvP.now e)
theorem kind_ev (a0 : Int) (a1 a2 : ByteArray) (a3 : Int) (a4 : ByteArray) (a5 a6 : Int) (l7 : List ByteArray) (h7 : l7.length ≤ 1048576) : EvP (fun k => spec_l22Stage.j0 k false a0 a1 a2 a3 a4 a5 a6 l7) (fun r => r = kindB a0 a1 a2 a3 a4 a5 l7) := by
 have empty : emB a1 = decide (a1.toList = ([] : List UInt8)) := rfl
 have j2b : EvP (fun k => spec_l22Stage.j2 k a0 true a0 a1 a2 a3 a4 a5 a6 l7) (fun r => r = (!emB a1 && patB a1)) := by
  refine EvP.step ?_
  simp only [spec_l22Stage.j2]
  refine EvP.pos (by first | rfl | trivial) (EvP.ite (fun h => EvP.now (by rw [empty, decide_eq_true h]; rfl)) (fun h => ?_))
  rw [empty, decide_eq_false h]
  exact EvP.bind (specPat_ev a1) (fun t e => EvP.now (by rw [e]; rfl))
 have j1b : EvP (fun k => spec_l22Stage.j1 k a0 true a0 a1 a2 a3 a4 a5 a6 l7) (fun r => r = (!emB a1 && (decide ((a1.size : Int) ≤ 100) && printedB a1))) := by
  refine EvP.step ?_
  simp only [spec_l22Stage.j1]
  refine EvP.pos (by first | rfl | trivial) (EvP.ite (fun h => EvP.now (by rw [empty, decide_eq_true h]; rfl)) (fun h => ?_))
  rw [empty, decide_eq_false h]
  exact EvP.bind (l22Text_ev a1 100 (by omega)) (fun t e => EvP.now (by rw [e]; rfl))
 have names : EvP (fun k => if (l7.length : Int) > 0 then (spec_l15Names.f k l7).bind fun t => some t else some false) (fun r => r = (decide (0 < l7.length) && namesB l7)) := by
  refine EvP.ite (fun h => ?_) (fun h => EvP.now (by rw [decide_eq_false (by omega)]; rfl))
  rw [decide_eq_true (by omega : 0 < l7.length), Bool.true_and]
  exact EvP.bind (specNames_ev l7 h7) (fun t e => EvP.now e)
 refine EvP.step ?_
 simp only [spec_l22Stage.j0]
 refine EvP.neg (by decide) ?_
 unfold kindB
 refine EvP.ite (fun h => ?_) (fun h1 => ?_)
 ·rw [if_pos h, beq_iff_eq.2 h]
  exact j1b
 ·rw [if_neg h1]
  by_cases h2 : a0 = 2
  ·rw [if_pos h2, beq_iff_eq.2 h2]
   exact j1b
  rw [if_neg h2, beq_eq_false_iff_ne.2 h2]
  refine EvP.step ?_
  simp only [spec_l22Stage.j1]
  refine EvP.neg (by decide) (EvP.ite (fun h => ?_) (fun h3 => ?_))
  ·rw [if_pos h, beq_iff_eq.2 h]
   exact j2b
  rw [if_neg h3]
  by_cases h4 : a0 = 4
  ·rw [if_pos h4, beq_iff_eq.2 h4]
   exact j2b
  rw [if_neg h4, beq_eq_false_iff_ne.2 h4]
  refine EvP.step ?_
  simp only [spec_l22Stage.j2]
  refine EvP.neg (by decide) (EvP.ite (fun h => EvP.now (by rw [if_pos h])) (fun h5 => ?_))
  rw [if_neg h5]
  refine EvP.ite (fun h => ?_) (fun h6 => ?_)
  ·rw [if_pos h]
   exact EvP.bind (form_ev a1) (fun t e => EvP.now e)
  rw [if_neg h6]
  refine EvP.ite (fun h => ?_) (fun h7 => ?_)
  ·rw [if_pos h]
   refine EvP.bind (specMats_ev [⟨a2, a3, a4⟩] (by simp)) (fun t e => EvP.now (e.trans ?_))
   unfold matsB
   rw [List.all_cons, List.all_nil, Bool.and_true]
   rfl
  rw [if_neg h7]
  refine EvP.ite (fun h => ?_) (fun h8 => ?_)
  ·rw [if_pos h]
   refine EvP.bind (spec_l2Name_ev a2) (fun t e => ?_)
   subst e
   rw [specCompare_ev]
   cases nameB a2 with
   | true => exact EvP.pos rfl (EvP.now rfl)
   | false => exact EvP.neg (by decide) (EvP.now rfl)
  rw [if_neg h8]
  refine EvP.ite (fun h => ?_) (fun h9 => ?_)
  ·rw [if_pos h]
   exact EvP.bind (specTpl_ev a1) (fun t e => EvP.now e)
  rw [if_neg h9]
  refine EvP.ite (fun h => by rw [if_pos h]; exact names) (fun h10 => ?_)
  rw [if_neg h10]
  refine EvP.ite (fun h => by rw [if_pos h]; exact names) (fun h11 => ?_)
  rw [if_neg h11]
  exact EvP.now rfl
def sameB (a1 a2 : ByteArray) (a3 : Int) (a4 : ByteArray) (a5 a6 : Int) (n : Nat) (z : Z8) : Bool :=
 decide (a1.toList = z.2.1.toList) && ((a2.toList == z.2.2.1.toList) && ((a3 == z.2.2.2.1) && ((a4.toList == z.2.2.2.2.1.toList) && (decide (a5 = z.2.2.2.2.2.1) && (decide (a6 = z.2.2.2.2.2.2.1) && !((n : Int) != (z.2.2.2.2.2.2.2.length : Int)))))))
def stageB (a0 : Int) (a1 a2 : ByteArray) (a3 : Int) (a4 : ByteArray) (a5 a6 : Int) (l7 : List ByteArray) : Bool := sameB a1 a2 a3 a4 a5 a6 l7.length (zeroM a0 a1 a2 a3 a4 a5 a6 l7) && kindB a0 a1 a2 a3 a4 a5 l7
theorem specStage_ev (a0 : Int) (a1 a2 : ByteArray) (a3 : Int) (a4 : ByteArray) (a5 a6 : Int) (l7 : List ByteArray) (h7 : l7.length ≤ 1048576) : EvP (fun k => spec_l22Stage.f k a0 a1 a2 a3 a4 a5 a6 l7) (fun r => r = stageB a0 a1 a2 a3 a4 a5 a6 l7) := by
 have bad : EvP (fun k => spec_l22Stage.j0 k true a0 a1 a2 a3 a4 a5 a6 l7) (fun r => r = false) := EvP.step (by simp only [spec_l22Stage.j0]; exact EvP.pos (by first | rfl | trivial) (EvP.now rfl))
 unfold spec_l22Stage.f stageB
 refine EvP.bind (zero_ev a0 a1 a2 a3 a4 a5 a6 l7) (fun z e => ?_)
 rw [← e]
 unfold sameB
 refine EvP.ite (fun h1 => ?_) (fun h1 => ?_)
 ·rw [decide_eq_true h1, Bool.true_and]
  cases a2.toList == z.2.2.1.toList with
  | false => exact EvP.pos (by first | rfl | simp) bad
  | true =>
   cases a3 == z.2.2.2.1 with
   | false => exact EvP.pos (by first | rfl | simp) bad
   | true =>
    cases a4.toList == z.2.2.2.2.1.toList with
    | false => exact EvP.pos (by first | rfl | simp) bad
    | true =>
     refine EvP.neg (by decide) (EvP.ite (fun h5 => ?_) (fun h5 => by rw [decide_eq_false h5]; exact bad))
     rw [decide_eq_true h5]
     refine EvP.ite (fun h6 => ?_) (fun h6 => by rw [decide_eq_false h6]; exact bad)
     rw [decide_eq_true h6]
     cases (l7.length : Int) != (z.2.2.2.2.2.2.2.length : Int) with
     | true => exact bad
     | false => exact kind_ev a0 a1 a2 a3 a4 a5 a6 l7 h7
 ·rw [decide_eq_false h1]
  exact bad
theorem em_beq (a : ByteArray) : (a.toList == E0.toList) = emB a := by
 have h0 : E0.toList = [] := by rw [Lib.toList_data]; rfl
 unfold emB
 rw [h0]
 by_cases h : a.toList = []
 ·rw [h]; rfl
 ·rw [decide_eq_false h]; exact beq_eq_false_iff_ne.2 h
theorem em_dec (a : ByteArray) : decide (a.toList = E0.toList) = emB a := by
 have h0 : E0.toList = [] := by rw [Lib.toList_data]; rfl
 unfold emB
 rw [h0]
theorem em_E0 : emB E0 = true := by
 have h0 : E0.toList = [] := by rw [Lib.toList_data]; rfl
 unfold emB
 rw [h0]; rfl
theorem em_E1 : emB ⟨#[]⟩ = true := em_E0
theorem beq_dec (a b : Int) : (a == b) = decide (a = b) := by
 by_cases h : a = b
 ·rw [decide_eq_true h]; exact beq_iff_eq.2 h
 ·rw [decide_eq_false h]; exact beq_eq_false_iff_ne.2 h
theorem len_ne0 (n : Nat) : (!((n : Int) != ((0 : Nat) : Int))) = decide (n = 0) := by
 unfold bne
 rw [Bool.not_not, beq_dec]
 exact decide_eq_decide.2 (by omega)
theorem len_nes (n : Nat) : (!((n : Int) != (n : Int))) = true := by
 unfold bne
 rw [Bool.not_not]
 exact beq_self_eq_true _
theorem and_swap (a b : Bool) : (a && b) = (b && a) := Bool.and_comm a b
theorem same1 (a0 : Int) (a1 a2 : ByteArray) (a3 : Int) (a4 : ByteArray) (a5 a6 : Int) (n : Nat) : sameB a1 a2 a3 a4 a5 a6 n (a0, a1, E0, 0, E0, 0, 0, []) = endB ⟨#[]⟩ a2 a3 a4 a5 a6 n := by
 unfold sameB endB
 dsimp only [List.length_nil]
 rw [em_beq, em_beq, len_ne0, em_E1, beq_dec, decide_eq_true rfl]
 cases emB a2 <;> cases emB a4 <;> cases decide (a3 = 0) <;> cases decide (a5 = 0) <;> cases decide (a6 = 0) <;> rfl
theorem same5 (a0 : Int) (a1 a2 : ByteArray) (a3 : Int) (a4 : ByteArray) (a5 a6 : Int) (n : Nat) : sameB a1 a2 a3 a4 a5 a6 n (a0, E0, E0, 0, E0, 0, 0, []) = endB a1 a2 a3 a4 a5 a6 n := by
 unfold sameB endB
 dsimp only [List.length_nil]
 rw [em_beq, em_beq, em_dec, len_ne0, beq_dec]
 cases emB a1 <;> cases emB a2 <;> cases emB a4 <;> cases decide (a3 = 0) <;> cases decide (a5 = 0) <;> cases decide (a6 = 0) <;> rfl
theorem same7 (a0 : Int) (a1 a2 : ByteArray) (a3 : Int) (a4 : ByteArray) (a5 a6 : Int) (n : Nat) : sameB a1 a2 a3 a4 a5 a6 n (a0, E0, a2, a3, a4, 0, 0, []) = endB a1 ⟨#[]⟩ 0 ⟨#[]⟩ a5 a6 n := by
 unfold sameB endB
 dsimp only [List.length_nil]
 rw [em_dec, len_ne0, em_E1, beq_self_eq_true, beq_self_eq_true, beq_self_eq_true, decide_eq_true (rfl : (0 : Int) = 0)]
 cases emB a1 <;> cases decide (a5 = 0) <;> cases decide (a6 = 0) <;> rfl
theorem same8 (a0 : Int) (a1 a2 : ByteArray) (a3 : Int) (a4 : ByteArray) (a5 a6 : Int) (n : Nat) : sameB a1 a2 a3 a4 a5 a6 n (a0, E0, a2, 0, E0, a5, a6, []) = (decide (a3 = 0) && emB a4 && endB a1 ⟨#[]⟩ 0 ⟨#[]⟩ 0 0 n) := by
 unfold sameB endB
 dsimp only [List.length_nil]
 rw [em_dec, em_beq, len_ne0, em_E1, beq_self_eq_true, beq_dec, decide_eq_true (rfl : a5 = a5), decide_eq_true (rfl : a6 = a6), decide_eq_true (rfl : (0 : Int) = 0)]
 cases emB a1 <;> cases emB a4 <;> cases decide (a3 = 0) <;> cases decide (n = 0) <;> rfl
theorem same10 (a0 : Int) (a1 a2 : ByteArray) (a3 : Int) (a4 : ByteArray) (a5 a6 : Int) (l7 : List ByteArray) : sameB a1 a2 a3 a4 a5 a6 l7.length (a0, E0, E0, 0, E0, 0, 0, l7) = endB a1 a2 a3 a4 a5 a6 0 := by
 unfold sameB endB
 dsimp only
 rw [em_beq, em_beq, em_dec, len_nes, beq_dec, decide_eq_true (rfl : (0 : Nat) = 0)]
 cases emB a1 <;> cases emB a2 <;> cases emB a4 <;> cases decide (a3 = 0) <;> cases decide (a5 = 0) <;> cases decide (a6 = 0) <;> rfl
theorem implStage_ev (a0 : Int) (a1 a2 : ByteArray) (a3 : Int) (a4 : ByteArray) (a5 a6 : Int) (l7 : List ByteArray) (h7 : l7.length ≤ 1048576) : EvP (fun k => impl_goodStage.f k a0 a1 a2 a3 a4 a5 a6 l7) (fun r => r = stageB a0 a1 a2 a3 a4 a5 a6 l7) := by
 unfold impl_goodStage.f stageB kindB zeroM
 refine EvP.ite (fun h => ?_) (fun h1 => ?_)
 ·rw [if_pos h, if_pos (by omega), same1]
  exact EvP.bind (implPrinted_ev a1 100 (by omega)) (fun t e => EvP.now (by rw [e, and_swap]))
 rw [if_neg h1]
 refine EvP.ite (fun h => ?_) (fun h2 => ?_)
 ·rw [if_pos h, if_pos (by omega), same1]
  exact EvP.bind (implPrinted_ev a1 100 (by omega)) (fun t e => EvP.now (by rw [e, and_swap]))
 rw [if_neg h2]
 refine EvP.ite (fun h => ?_) (fun h3 => ?_)
 ·rw [if_pos h, if_pos (by omega), same1]
  exact EvP.bind (implPat_ev a1) (fun t e => EvP.now (by rw [e, and_swap]))
 rw [if_neg h3]
 refine EvP.ite (fun h => ?_) (fun h4 => ?_)
 ·rw [if_pos h, if_pos (by omega), same1]
  exact EvP.bind (implPat_ev a1) (fun t e => EvP.now (by rw [e, and_swap]))
 rw [if_neg h4]
 refine EvP.ite (fun h => ?_) (fun h5 => ?_)
 ·rw [if_pos h, if_neg (by omega), if_neg (by omega), if_neg (by omega), if_neg (by omega), same5]
  exact EvP.now (and_swap _ _)
 rw [if_neg h5]
 refine EvP.ite (fun h => ?_) (fun h6 => ?_)
 ·rw [if_pos h, if_pos (by omega), same1]
  exact EvP.now (and_swap _ _)
 rw [if_neg h6]
 refine EvP.ite (fun h => ?_) (fun h7' => ?_)
 ·rw [if_pos h, if_neg (by omega), if_pos h, same7]
  exact EvP.bind (implMat_ev ⟨a2, a3, a4⟩) (fun t e => EvP.now (by rw [e, and_swap]))
 rw [if_neg h7']
 refine EvP.ite (fun h => ?_) (fun h8 => ?_)
 ·rw [if_pos h, if_neg (by omega), if_neg h7', if_pos h, same8]
  refine EvP.bind (impl_isName_ev a2) (fun t e => ?_)
  rw [compares_eq, specCompare_ev]
  refine EvP.now ?_
  rw [e]
  show _ = _
  cases nameB a2 <;> cases cmpB a5 <;> cases decide (a3 = 0) <;> cases emB a4 <;> cases endB a1 ⟨#[]⟩ 0 ⟨#[]⟩ 0 0 l7.length <;> rfl
 rw [if_neg h8]
 refine EvP.ite (fun h => ?_) (fun h9 => ?_)
 ·rw [if_pos h, if_pos (by omega), same1, if_neg h7', if_neg h8]
  exact EvP.bind (implTpl_ev a1) (fun t e => EvP.now (by rw [e, and_swap]))
 rw [if_neg h9, if_neg (by omega)]
 refine EvP.ite (fun h => ?_) (fun h10 => ?_)
 ·rw [if_pos h, if_neg h7', if_neg h8, if_pos (Or.inl h), same10]
  exact EvP.bind (implNames_ev l7 h7) (fun t e => EvP.now (by rw [e, and_swap]))
 rw [if_neg h10]
 refine EvP.ite (fun h => ?_) (fun h11 => ?_)
 ·rw [if_pos h, if_neg h7', if_neg h8, if_pos (Or.inr h), same10]
  exact EvP.bind (implNames_ev l7 h7) (fun t e => EvP.now (by rw [e, and_swap]))
 rw [if_neg h11, if_neg h7', if_neg h8, Bool.and_false]
 exact EvP.now rfl
end Go.Proofs.Ytafphfdnoejdeaa.StgEq
