/- The reference's reading of a form gives the program's, told in its own way: texts and holes. -/
import Derived.Test.YtpnldoegchjmmaaHForm
import Derived.Test.YtpnldoegchjmmaaPFnExactPartsOfx3
import Derived.Test.YtpnldoegchjmmaaPFnExactPartsOfx2
namespace Go.Proofs.Ytpnldoegchjmmaa.FormFull
open Go.RowKit Go.Proofs.Ytpnldoegchjmmaa.PFnExactPartsOf Go.Proofs.YtpnldoegchjmmaaW.PrintWords Go.Proofs.YtpnldoegchjmmaaW.PrintLast Go.Proofs.Ytpnldoegchjmmaa.Evs Go.Proofs.Ytpnldoegchjmmaa.AFnExactPartsOf Go.Proofs.Ytpnldoegchjmmaa.PrtFnExactPartsOf Go.Proofs.Ytpnldoegchjmmaa.Form
set_option linter.unusedVariables false
theorem bt_ext (p : ByteArray) (a j : Nat) (h : a + j < p.size) : bt (p.extract a p.size) (j : Int) = bt p ((a + j : Nat) : Int) := by
  have hs : (p.extract a p.size).size = p.size - a := by rw [ext_size]; omega
  unfold bt
  rw [dif_pos (by rw [hs]; omega), dif_pos (by omega)]
  congr 2
  show (p.extract a p.size).data[(j : Int).toNat]'_ = p.data[((a + j : Nat) : Int).toNat]'_
  simp only [Int.toNat_natCast, ByteArray.data_extract, Array.getElem_extract]
theorem ext_ext (p : ByteArray) (a k : Nat) (h : a + k ≤ p.size) : (p.extract a p.size).extract 0 k = p.extract a (a + k) := by
  have hp : p.data.size = p.size := rfl
  apply ByteArray.ext
  simp only [ByteArray.data_extract]
  rw [Array.extract_extract]
  congr 1
  omega
theorem ext_ext2 (p : ByteArray) (a k : Nat) (h : a + k ≤ p.size) : (p.extract a p.size).extract k (p.extract a p.size).size = p.extract (a + k) p.size := by
  have hp : p.data.size = p.size := rfl
  rw [ext_size]
  apply ByteArray.ext
  simp only [ByteArray.data_extract]
  rw [Array.extract_extract]
  congr 1
  omega
theorem wordC_eq (c : Int) : wordC c = (letC c || (digC c || (c == 95))) := by unfold wordC; rw [Bool.or_assoc]
theorem nameAt_loop (p : ByteArray) (hp : p.size ≤ 1048576) (a : Nat) : ∀ (d j : Nat), a + j + d = p.size → EvP (fun k => spec_l2NameAt.l0 k p ((a + j : Nat) : Int)) (fun r => r = ((a + wEndD (p.extract a p.size) d j : Nat) : Int)) := by
  intro d
  induction d with
  | zero =>
    intro j h
    refine EvP.step ?_
    simp only [spec_l2NameAt.l0]
    exact EvP.neg (by omega) (EvP.now rfl)
  | succ d ih =>
    intro j h
    have hn := ih (j + 1) (by omega)
    refine EvP.step ?_
    simp only [spec_l2NameAt.l0, spec_l2Letter_ev, spec_l2Digit_ev, Option.bind_some, wrap_succ (show a + j < p.size by omega) hp]
    refine EvP.pos (by omega) (EvP.pos (by omega) ?_)
    unfold wEndD
    rw [bt_ext p a j (by omega), wordC_eq]
    rw [show a + (j + 1) = a + j + 1 by omega] at hn
    generalize bt p ((a + j : Nat) : Int) = c
    cases letC c with
    | true => exact EvP.pos rfl hn
    | false =>
      refine EvP.neg (by decide) ?_
      cases digC c with
      | true => exact EvP.pos rfl hn
      | false =>
        refine EvP.neg (by decide) ?_
        by_cases h9 : c = 95
        · rw [beq_iff_eq.2 h9]
          exact EvP.pos h9 hn
        · rw [beq_eq_false_iff_ne.2 h9]
          exact EvP.neg h9 (EvP.now rfl)
theorem nameAt_ev (p : ByteArray) (hp : p.size ≤ 1048576) (a : Nat) (h : a ≤ p.size) : EvP (fun k => spec_l2NameAt.f k p (a : Int)) (fun r => r = ((a + wEnd (p.extract a p.size) : Nat) : Int)) := by
  unfold spec_l2NameAt.f
  have h1 := nameAt_loop p hp a (p.size - a) 0 (by omega)
  have e : (p.extract a p.size).size = p.size - a := by rw [ext_size]; omega
  unfold wEnd
  rw [e]
  exact h1
/-- A form's parts, as the reference keeps them. -/
def encF (out : List SHl) : List (ByteArray × Bool) := out.flatMap (fun h => (if h.f0.toList = [] then [] else [(h.f0, false)]) ++ [(h.f1, true)])
theorem encF_nil : encF [] = [] := rfl
theorem encF_snoc (out : List SHl) (t n : ByteArray) : encF (out ++ [⟨t, n⟩]) = encF out ++ ((if t.toList = [] then [] else [(t, false)]) ++ [(n, true)]) := by
  unfold encF
  rw [List.flatMap_append]
  simp
theorem encF_len : ∀ out : List SHl, out.length ≤ (encF out).length ∧ (encF out).length ≤ 2 * out.length
  | [] => ⟨Nat.le_refl _, Nat.le_refl _⟩
  | h :: hs => by
    have := encF_len hs
    unfold encF at this ⊢
    rw [List.flatMap_cons, List.length_append, List.length_append, List.length_cons]
    split <;> simp only [List.length_cons, List.length_nil] <;> omega
/-- A whole form's parts, as the reference keeps them. -/
def encW (L : List SHl) (t : ByteArray) : List (ByteArray × Bool) := encF L ++ (if t.toList = [] then [] else [(t, false)])
def okF (r : List ByteArray × List Bool × Bool) (X : List SHl × Bool) : Prop := r.2.2 = X.2 ∧ (X.2 = true → r.1 = (encW X.1.dropLast (X.1.getLastD ⟨⟨#[]⟩, ⟨#[]⟩⟩).f0).map Prod.fst ∧ r.2.1 = (encW X.1.dropLast (X.1.getLastD ⟨⟨#[]⟩, ⟨#[]⟩⟩).f0).map Prod.snd)
theorem okF_no : okF ([], [], false) ([], false) := ⟨rfl, fun h => absurd h (by decide)⟩
theorem okF_end (out : List SHl) (t : ByteArray) (b c : Bool) (h : b = c) : okF ((encW out t).map Prod.fst, (encW out t).map Prod.snd, b) (out ++ [⟨t, ⟨#[]⟩⟩], c) := by
  refine ⟨h, fun _ => ?_⟩
  dsimp only
  rw [List.dropLast_concat, List.getLastD_concat]
  exact ⟨rfl, rfl⟩
theorem any_enc (n : ByteArray) : ∀ out : List SHl, (encF out).any (fun q => q.2 && decide (q.1.toList = n.toList)) = decide (n.data.toList ∈ out.map (fun h => h.f1.data.toList))
  | [] => rfl
  | h :: hs => by
    have e : encF (h :: hs) = ((if h.f0.toList = [] then [] else [(h.f0, false)]) ++ [(h.f1, true)]) ++ encF hs := by unfold encF; rw [List.flatMap_cons]
    have e1 : (if h.f0.toList = [] then ([] : List (ByteArray × Bool)) else [(h.f0, false)]).any (fun q => q.2 && decide (q.1.toList = n.toList)) = false := by split <;> rfl
    rw [e, List.any_append, List.any_append, e1, any_enc n hs, List.map_cons]
    simp only [List.any_cons, List.any_nil, Bool.or_false, Bool.false_or, Bool.true_and]
    rw [Lib.toList_data, Lib.toList_data]
    by_cases hh : h.f1.data.toList = n.data.toList
    · rw [decide_eq_true hh, decide_eq_true (List.mem_cons.2 (Or.inl hh.symm) : n.data.toList ∈ h.f1.data.toList :: List.map (fun h => h.f1.data.toList) hs)]; rfl
    · rw [decide_eq_false hh, Bool.false_or]
      exact decide_eq_decide.2 ⟨fun h1 => List.mem_cons_of_mem _ h1, fun h1 => (List.mem_cons.1 h1).resolve_left (fun e => hh e.symm)⟩
theorem enc_last {out : List SHl} (h : 0 < out.length) : ∃ L n, encF out = L ++ [(n, true)] := by
  rcases List.eq_nil_or_concat out with e | ⟨xs, x, e⟩
  · rw [e] at h; exact absurd h (by simp)
  · rw [e, List.concat_eq_append, show xs ++ [x] = xs ++ [⟨x.f0, x.f1⟩] from rfl, encF_snoc]
    exact ⟨encF xs ++ (if x.f0.toList = [] then [] else [(x.f0, false)]), x.f1, by rw [List.append_assoc]⟩
theorem l1_ev (p : ByteArray) (hp : p.size ≤ 1000) (x e : Nat) (h1 : x + 1 ≤ e) (h2 : e ≤ p.size) (L : List (ByteArray × Bool)) (hL : L.length ≤ 1000) (x8 : Int) (Q : List ByteArray × List Bool × Bool → Prop) : ∀ d i : Nat, i + d = L.length →
    ((L.drop i).any (fun q => q.2 && decide (q.1.toList = (p.extract (x + 1) e).toList)) = true → Q ([], [], false)) →
    ((L.drop i).any (fun q => q.2 && decide (q.1.toList = (p.extract (x + 1) e).toList)) = false → EvP (fun k => spec_l22Form.l0 k p (L.map Prod.fst ++ [p.extract (x + 1) e]) (L.map Prod.snd ++ [true]) ⟨#[]⟩ (wrap64 (x8 + 1)) ((e + 1 : Nat) : Int)) Q) →
    EvP (fun k => spec_l22Form.l1 k p (L.map Prod.fst) (L.map Prod.snd) x8 (x : Int) (e : Int) (L.map Prod.fst) ((L.map Prod.fst).length : Int) (i : Int)) Q := by
  intro d
  induction d with
  | zero =>
    intro i h hf hc
    rw [List.drop_of_length_le (by omega)] at hc
    refine EvP.step ?_
    simp only [spec_l22Form.l1, List.length_map, wrap_succ (show x < p.size by omega) (show p.size ≤ 1048576 by omega), Int.toNat_natCast]
    have hw : wrap64 ((e : Int) + 1) = ((e + 1 : Nat) : Int) := by unfold wrap64; omega
    rw [hw]
    exact EvP.neg (by omega) (EvP.pos (by omega) (EvP.pos (by omega) (EvP.pos (by omega) (EvP.pos (by omega) (EvP.pos (by omega) (hc rfl))))))
  | succ d ih =>
    intro i h hf hc
    have hi : i < L.length := by omega
    rw [List.drop_eq_getElem_cons hi, List.any_cons] at hf hc
    refine EvP.step ?_
    simp only [spec_l22Form.l1, List.length_map, wrap_succ (show x < p.size by omega) (show p.size ≤ 1048576 by omega), wrap_succ (show i < L.length from hi) (show L.length ≤ 1048576 by omega), Int.toNat_natCast]
    have g1 : rdOf false (L.map Prod.snd) (i : Int) = L[i].2 := (rdOf_get _ _ i (by rw [List.length_map]; exact hi)).trans (List.getElem_map ..)
    have g2 : rdOf ByteArray.empty (L.map Prod.fst) (i : Int) = L[i].1 := (rdOf_get _ _ i (by rw [List.length_map]; exact hi)).trans (List.getElem_map ..)
    rw [g1, g2]
    have hn := ih (i + 1) (by omega)
    simp only [List.length_map] at hn
    refine EvP.pos (by omega) (EvP.pos (by omega) (EvP.pos (by omega) (EvP.pos (by omega) ?_)))
    refine EvP.ite (fun hb => ?_) (fun hb => ?_)
    · rw [hb, Bool.true_and] at hf hc
      refine EvP.pos (by omega) (EvP.pos (by omega) (EvP.pos (by omega) ?_))
      refine EvP.ite (fun he => EvP.now (hf (by rw [decide_eq_true he]; rfl))) (fun he => ?_)
      rw [decide_eq_false he, Bool.false_or] at hf hc
      exact hn hf hc
    · have hb' : L[i].2 = false := by simpa using hb
      rw [hb', Bool.false_and, Bool.false_or] at hf hc
      exact hn hf hc
theorem fq_eq (p : ByteArray) (x : Nat) : fq p x = p.extract (x + 1) p.size := by unfold fq; rfl
theorem name_eq (p : ByteArray) (x : Nat) (hx : x < p.size) : (wordM (fq p x)).1 = p.extract (x + 1) (x + 1 + wEnd (fq p x)) ∧ (wordM (fq p x)).2 = p.extract (x + 1 + wEnd (fq p x)) p.size ∧ x + 1 + wEnd (fq p x) ≤ p.size := by
  have h := wEnd_le (fq p x)
  have hs : (fq p x).size = p.size - (x + 1) := by rw [fq_eq, ext_size]; omega
  rw [hs] at h
  refine ⟨?_, ?_, by omega⟩
  · unfold wordM
    show (fq p x).extract 0 (wEnd (fq p x)) = _
    generalize wEnd (fq p x) = n at h ⊢
    rw [fq_eq]
    exact ext_ext p (x + 1) n (by omega)
  · unfold wordM
    show (fq p x).extract (wEnd (fq p x)) (fq p x).size = _
    generalize wEnd (fq p x) = n at h ⊢
    rw [fq_eq]
    exact ext_ext2 p (x + 1) n (by omega)
theorem fok_eq (p : ByteArray) (x e : Nat) (hx : x < p.size) (he : e = x + 1 + wEnd (fq p x)) : fok p x = (nameB (p.extract (x + 1) e) && (decide (e < p.size) && (bt p (e : Int) == 62))) := by
  obtain ⟨h1, h2, h3⟩ := name_eq p x hx
  unfold fok
  rw [h1, h2, ← he]
  congr 1
  unfold gtB
  rw [ext_size]
  by_cases hl : e < p.size
  · have hb : bt (p.extract e p.size) 0 = bt p (e : Int) := bt_ext p e 0 (by omega)
    rw [decide_eq_true (by omega), decide_eq_true hl, hb]
  · rw [decide_eq_false (by omega), decide_eq_false hl]; rfl
theorem fdup_eq {p : ByteArray} {x : Nat} {t n : ByteArray} {out : List SHl} (h : (wordM (fq p x)).1 = n) : fdup p x t out = (decide (n.data.toList ∈ out.map (fun h => h.f1.data.toList)) || (decide (t.toList = []) && decide (0 < out.length))) := by
  subst h
  rfl
theorem emp_size : (⟨#[]⟩ : ByteArray).size = 0 := rfl
theorem num_a {P N x e : Nat} (h1 : P + 1 ≤ N + 1 + x) (h2 : x + 1 ≤ e) : P + 1 ≤ N + (e + 1) := by omega
theorem num_b {a x e : Nat} (h1 : a ≤ x) (h2 : x + 1 ≤ e) : a + 1 ≤ e + 1 := by omega
theorem num_w {a P : Nat} (h1 : a ≤ P) (h2 : P ≤ 100) : wrap64 ((a : Int) + 1) = ((a + 1 : Nat) : Int) := by unfold wrap64; omega
theorem num_p {a b : Nat} (h1 : a = b + 1) (h2 : a ≤ 1000) : wrap64 ((a : Int) - 1) = ((b : Nat) : Int) := by unfold wrap64; omega
theorem num_q {a b c : Nat} (h1 : a ≤ 2 * b) (h2 : b ≤ c) (h3 : c ≤ 100) : a ≤ 999 := by omega
theorem num_y {a b : Nat} (h1 : a = b + 1) : (a : Int) > 0 := by omega
theorem num_z {a b : Nat} (h1 : a ≤ 2 * b) (h2 : ¬ 0 < b) : ¬ (a : Int) > 0 := by omega
theorem num_l {a b : Nat} (h1 : a = b + 1) : (b : Int) < (a : Int) := by omega
theorem num_0 (a : Nat) : 0 ≤ (a : Int) := by omega
theorem num_m {a : Nat} (h2 : a ≤ 999) : a < 8796093022208 := by omega
theorem num_n {a : Nat} (h2 : a ≤ 999) : a < 140737488355328 := by omega
theorem len_snoc (out : List SHl) (x : SHl) : (out ++ [x]).length = out.length + 1 := by rw [List.length_append]; rfl
theorem last_ev (p : ByteArray) (hp : p.size ≤ 1000) (x e : Nat) (h1 : x + 1 ≤ e) (h2 : e ≤ p.size) (t n : ByteArray) (out : List SHl) (R : List SHl × Bool)
    (hw8 : wrap64 ((out.length : Int) + 1) = ((out.length + 1 : Nat) : Int))
    (h : EvP (fun k => spec_l22Form.l0 k p ((encF (out ++ [⟨t, n⟩])).map Prod.fst) ((encF (out ++ [⟨t, n⟩])).map Prod.snd) ⟨#[]⟩ ((out.length + 1 : Nat) : Int) ((e + 1 : Nat) : Int)) (fun r => okF r R))
    (L : List (ByteArray × Bool)) (hL : L.length ≤ 1000) (D : Bool) (hd : D = L.any (fun q => q.2 && decide (q.1.toList = (p.extract (x + 1) e).toList))) (hLe : L ++ [(p.extract (x + 1) e, true)] = encF (out ++ [⟨t, n⟩])) :
    EvP (fun k => spec_l22Form.j4 k p (L.map Prod.fst) (L.map Prod.snd) (out.length : Int) (x : Int) (e : Int)) (fun r => okF r (if D = true then (([], false) : List SHl × Bool) else R)) := by
  refine EvP.step ?_
  simp only [spec_l22Form.j4]
  refine l1_ev p hp x e h1 h2 L hL _ _ L.length 0 (Nat.zero_add _) (fun hf => ?_) (fun hf => ?_)
  · rw [List.drop_zero] at hf
    rw [if_pos (hd.trans hf)]
    exact okF_no
  · rw [List.drop_zero] at hf
    rw [if_neg (by rw [hd, hf]; decide), hw8]
    rw [← hLe] at h
    simp only [List.map_append, List.map_cons, List.map_nil] at h
    exact h
attribute [local irreducible] wEnd wEndD wordM fok fdup formL encF fq
set_option maxHeartbeats 1000000 in
theorem form_loop (p : ByteArray) (hp : p.size ≤ 100) : ∀ (N x : Nat) (t : ByteArray) (out : List SHl), p.size + 1 ≤ N + x → x ≤ p.size → out.length ≤ x → t.size ≤ x → EvP (fun k => spec_l22Form.l0 k p ((encF out).map Prod.fst) ((encF out).map Prod.snd) t (out.length : Int) (x : Int)) (fun r => okF r (formL p N (x : Int) t out)) := by
  intro N
  induction N with
  | zero => intro x t out h1 h2; omega
  | succ N ih =>
    intro x t out hN hx1 ho ht
    have hen := encF_len out
    refine EvP.step ?_
    by_cases hx : x < p.size
    · have hwx : wrap64 ((x : Int) + 1) = ((x + 1 : Nat) : Int) := wrap_succ hx (by omega)
      rw [formL_step p N x t out hx]
      have hchar : ¬ (bt p x = 60 ∧ fok p x = true) → ∀ e : Int, EvP (fun k => spec_l22Form.j3 k p ((encF out).map Prod.fst) ((encF out).map Prod.snd) t (out.length : Int) (x : Int) e true) (fun r => okF r (if bt p x = 60 ∧ fok p x = true then (if fdup p x t out = true then ([], false) else formL p N ((x + ((wordM (fq p x)).1.size + 1) + 1 : Nat) : Int) ⟨#[]⟩ (out ++ [⟨t, (wordM (fq p x)).1⟩])) else formL p N ((x + 1 : Nat) : Int) (t ++ p.extract (x : Int).toNat ((x : Int) + 1).toNat) out)) := fun hn e => by
        rw [if_neg hn]
        refine EvP.step ?_
        have ez : (t ++ p.extract (x : Int).toNat ((x : Int) + 1).toNat).size ≤ x + 1 := by rw [ByteArray.size_append, ext_size]; omega
        have h := ih (x + 1) (t ++ p.extract (x : Int).toNat ((x : Int) + 1).toNat) out (by omega) hx (by omega) ez
        simp only [spec_l22Form.j3, hwx]
        rw [show (((x + 1 : Nat) : Int)).toNat = ((x : Int) + 1).toNat by omega]
        rw [ByteArray.size_append] at ez
        exact EvP.pos (by first | rfl | trivial) (EvP.pos (by omega) (EvP.pos (by omega) (EvP.pos (by omega) (EvP.pos (by omega) h))))
      simp only [spec_l22Form.l0, hwx]
      refine EvP.pos (by omega) (EvP.pos (by omega) ?_)
      by_cases h60 : bt p (x : Int) = 60
      · refine EvP.pos h60 (EvP.bind (nameAt_ev p (by omega) (x + 1) (by omega)) (fun e' ee => ?_))
        rw [← fq_eq] at ee
        obtain ⟨e, he⟩ : ∃ e, e = x + 1 + wEnd (fq p x) := ⟨_, rfl⟩
        rw [← he] at ee
        subst ee
        obtain ⟨n1, n2, n3⟩ := name_eq p x hx
        rw [← he] at n1 n2 n3
        have hfk := fok_eq p x e hx he
        refine EvP.step ?_
        simp only [spec_l22Form.j2, hwx, Int.toNat_natCast]
        refine EvP.pos (by omega) (EvP.pos (by omega) (EvP.pos h60 ?_))
        by_cases hl : e < p.size
        · rw [decide_eq_true hl, Bool.true_and] at hfk
          refine EvP.neg (by omega) (EvP.pos (by omega) (EvP.pos (by omega) ?_))
          by_cases h62 : bt p (e : Int) = 62
          · rw [beq_iff_eq.2 h62, Bool.and_true] at hfk
            refine EvP.pos h62 (EvP.pos (by omega) (EvP.pos (by omega) (EvP.pos (by omega) (EvP.bind (spec_l2Name_ev _) (fun b eb => ?_)))))
            rw [← hfk] at eb
            cases b with
            | false => exact hchar (fun h => by rw [← eb] at h; exact absurd h.2 (by decide)) _
            | true =>
              have hk : fok p x = true := eb.symm
              rw [if_pos (⟨h60, hk⟩ : bt p (x : Int) = 60 ∧ fok p x = true)]
              have hfs : (wordM (fq p x)).1.size = e - (x + 1) := by rw [n1, ext_size]; omega
              have hxx : x + ((wordM (fq p x)).1.size + 1) + 1 = e + 1 := by omega
              rw [hxx]
              have hw8 : wrap64 ((out.length : Int) + 1) = ((out.length + 1 : Nat) : Int) := num_w (Nat.le_trans ho hx1) hp
              refine EvP.step ?_
              simp only [spec_l22Form.j3, Bool.not_true]
              refine EvP.neg (by decide) ?_
              have hlast := last_ev p (Nat.le_trans hp (by decide)) x e (by rw [he]; exact Nat.le_add_right _ _) n3 t (wordM (fq p x)).1 out (formL p N ((e + 1 : Nat) : Int) ⟨#[]⟩ (out ++ [⟨t, (wordM (fq p x)).1⟩])) hw8 (by
                have h := ih (e + 1) ⟨#[]⟩ (out ++ [⟨t, (wordM (fq p x)).1⟩]) (num_a hN (by rw [he]; exact Nat.le_add_right _ _)) (Nat.succ_le_of_lt hl) (by rw [len_snoc]; exact num_b ho (by rw [he]; exact Nat.le_add_right _ _)) (by rw [emp_size]; exact Nat.zero_le _)
                rw [len_snoc] at h
                exact h)
              have hfd := fdup_eq (t := t) (out := out) n1
              rw [← any_enc (p.extract (x + 1) e) out] at hfd
              have hel : (encF out).length ≤ 999 := num_q hen.2 (Nat.le_trans ho hx1) hp
              refine EvP.ite (fun hte => ?_) (fun hte => ?_)
              · by_cases hol : 0 < out.length
                · obtain ⟨L, n, hLn⟩ := enc_last hol
                  have hd : fdup p x t out = true := hfd.trans (by rw [decide_eq_true hte, decide_eq_true hol, Bool.and_true, Bool.or_true])
                  have hLl : (encF out).length = L.length + 1 := by rw [hLn, List.length_append]; rfl
                  have hwl : wrap64 ((((encF out).map Prod.fst).length : Int) - 1) = ((L.length : Nat) : Int) := by rw [List.length_map]; exact num_p hLl (Nat.le_trans hel (by decide))
                  have hg : rdOf false ((encF out).map Prod.snd) (L.length : Int) = true := by
                    rw [hLn, List.map_append, rdOf_get false _ L.length (by simp)]
                    rw [List.getElem_append_right (by simp)]
                    simp
                  rw [hwl, hg, hd, if_pos rfl]
                  exact EvP.pos (by rw [List.length_map]; exact num_y hLl) (EvP.pos (num_0 _) (EvP.pos (by rw [List.length_map]; exact num_l hLl) (EvP.pos rfl (EvP.now okF_no))))
                · refine EvP.neg (by rw [List.length_map]; exact num_z hen.2 hol) (hlast (encF out) (Nat.le_trans hel (by decide)) _ ?_ ?_)
                  · exact hfd.trans (by rw [decide_eq_false hol, Bool.and_false, Bool.or_false])
                  · rw [encF_snoc, if_pos hte, ← n1]; simp
              · refine EvP.pos (by rw [List.length_map]; exact num_m hel) (EvP.pos (by rw [List.length_map]; exact num_n hel) ?_)
                have h := hlast (encF out ++ [(t, false)]) (by rw [List.length_append]; exact Nat.succ_le_succ hel) _ (hfd.trans (by rw [List.any_append, decide_eq_false hte, Bool.false_and, Bool.or_false, List.any_cons, List.any_nil, Bool.false_and, Bool.or_false, Bool.or_false])) (by rw [encF_snoc, if_neg hte, ← n1]; simp)
                simp only [List.map_append, List.map_cons, List.map_nil] at h
                exact h
          · exact EvP.neg h62 (hchar (fun h => by rw [hfk, beq_eq_false_iff_ne.2 h62, Bool.and_false] at h; exact absurd h.2 (by decide)) _)
        · rw [decide_eq_false hl, Bool.false_and, Bool.and_false] at hfk
          exact EvP.pos (by omega) (hchar (fun h => by rw [hfk] at h; exact absurd h.2 (by decide)) _)
      · refine EvP.neg h60 (EvP.step ?_)
        simp only [spec_l22Form.j2]
        exact EvP.pos (by omega) (EvP.pos (by omega) (EvP.neg h60 (hchar (fun h => h60 h.1) _)))
    · have hf : formL p (N + 1) (x : Int) t out = (out ++ [⟨t, ⟨#[]⟩⟩], decide (0 < out.length)) := by unfold formL; rw [if_neg (by omega)]
      rw [hf]
      have hd : decide ((out.length : Int) > 0) = decide (0 < out.length) := decide_eq_decide.2 (by omega)
      have hE := okF_end out t _ _ hd
      simp only [spec_l22Form.l0]
      refine EvP.neg (by omega) (EvP.ite (fun hte => EvP.now ?_) (fun hte => EvP.pos (by rw [List.length_map]; omega) (EvP.pos (by rw [List.length_map]; omega) (EvP.now ?_))))
      · unfold encW at hE
        rw [if_pos hte, List.append_nil] at hE
        exact hE
      · unfold encW at hE
        rw [if_neg hte, List.map_append, List.map_append] at hE
        exact hE
theorem form_ev (p : ByteArray) : EvP (fun k => spec_l22Form.f k p) (fun r => okF r (formM p)) := by
  unfold spec_l22Form.f formM
  have bad : EvP (fun k => spec_l22Form.j0 k p ([] : List ByteArray) ([] : List Bool) (⟨#[]⟩ : ByteArray) true) (fun r => okF r ([], false)) := EvP.step (by simp only [spec_l22Form.j0]; exact EvP.pos (by first | rfl | trivial) (EvP.now okF_no))
  by_cases h0 : p.toList = []
  · have hs := size_zero h0
    rw [decide_eq_true h0]
    exact EvP.pos (by omega) bad
  · have hs : p.size ≠ 0 := fun h => h0 (by rw [Lib.toList_data]; have : p.data.size = 0 := h; rw [Array.size_eq_zero_iff.1 this])
    rw [decide_eq_false h0, Bool.false_or]
    refine EvP.neg (by omega) (EvP.bind (P := fun r => r = (decide (p.size ≤ 100) && printedB p)) ?_ (fun b eb => ?_))
    · unfold spec_l22Text.f
      refine EvP.ite (fun h => ?_) (fun h => EvP.now (by rw [decide_eq_false (by omega)]; rfl))
      rw [decide_eq_true (by omega : p.size ≤ 100), Bool.true_and]
      exact EvP.bind (specPrinted_ev p (by omega)) (fun b e => EvP.now e)
    · rw [← eb]
      cases b with
      | false => exact bad
      | true =>
        have h100 : p.size ≤ 100 := by have h := eb.symm; simp only [Bool.and_eq_true, decide_eq_true_eq] at h; exact h.1
        refine EvP.step ?_
        simp only [spec_l22Form.j0, Bool.not_true]
        refine EvP.neg (by decide) ?_
        rw [if_neg Bool.false_ne_true]
        have h := form_loop p h100 (p.size + 1) 0 ⟨#[]⟩ [] (by omega) (by omega) (Nat.zero_le _) (Nat.zero_le _)
        rw [encF_nil] at h
        exact h
end Go.Proofs.Ytpnldoegchjmmaa.FormFull
