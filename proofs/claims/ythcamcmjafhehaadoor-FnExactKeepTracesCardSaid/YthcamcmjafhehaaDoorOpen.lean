/- What the reading of an argument gives: a value of its kind. Lemmas for the rows of laws over slices of structs; of no program. -/
import Derived.Test.YthcamcmjafhehaaDoorWWords
import Derived.Deep.Slices
import Derived.ChangeArms
import Derived.ProofKit
namespace Go.Proofs.YthcamcmjafhehaaDoor.Opn
open Go.RowKit Go.Proofs.YthcamcmjafhehaaDoorW.PrintWords

/-- Cells that are read at type t hold a value of the kind d that is as good says. -/
def Opens {α : Type} (P : Program) (t : TypeId) (d : Kd α) (good : α → Prop) : Prop :=
  ∀ (H : Type) (enc : TypeId × Value → H) (w : World) (fuel : Nat) (cs : List Value) (x : DataW H × List MemPlace),
    DataW.trod enc P w 0 (fun _ => true) true fuel t cs = some x → ∃ a : α, d.K w a cs ∧ good a

theorem opens_int {P : Program} {t : TypeId} {k : IntKind} (h : P.underlying t = some (.int k)) : Opens P t (Kd.int k) (fun n => (Lit.int k n).wf = true) := by
  intro H enc w fuel cs x hx
  obtain ⟨n, rfl, _, hw⟩ := DataW.trod_int h hx
  exact ⟨n, rfl, hw⟩

theorem opens_bool {P : Program} {t : TypeId} (h : P.underlying t = some .bool) : Opens P t Kd.bool (fun _ => True) := by
  intro H enc w fuel cs x hx
  obtain ⟨n, rfl, _⟩ := DataW.trod_bool h hx
  exact ⟨n, rfl, trivial⟩

theorem opens_string {P : Program} {t : TypeId} (h : P.underlying t = some .string) : Opens P t Kd.string (fun s => s.size ≤ 9223372036854775807) := by
  intro H enc w fuel cs x hx
  obtain ⟨n, rfl, _, hw⟩ := DataW.trod_string h hx
  exact ⟨n, rfl, by unfold maxLen at hw; omega⟩

/-- A slice: its length is an int, and each element is good. -/
def GoodL {α : Type} (good : α → Prop) (l : List α) : Prop := l.length ≤ 9223372036854775807 ∧ ∀ a ∈ l, good a

theorem opens_slice {α : Type} {P : Program} {t e : TypeId} {d : Kd α} {good : α → Prop} (h : P.underlying t = some (.slice e)) (hc : P.cellsOf e = d.sz) (he : Opens P e d good) :
    Opens P t (Kd.slice e d) (GoodL good) := by
  intro H enc w fuel cs x hx
  rcases Go.Deep.open_slice h hx with ⟨rfl, _⟩ | ⟨a, len, cap, m, n, D, Pl, rfl, _, hl, hm, hmm, _, hel⟩
  · exact ⟨[], ⟨none, 0, rfl, Nat.le_refl _, Kd.C_nil d w⟩, by simp, fun a ha => by cases ha⟩
  · have hmc : m = cap := by simpa using hmm
    subst hmc
    unfold maxLen at hm
    have key : ∀ i, i < len → ∃ y : α, (∃ cs', w.cells? 0 (a.add (i * P.cellsOf e)) (P.cellsOf e) = some cs' ∧ d.K w y cs') ∧ good y := by
      intro i hi
      obtain ⟨cs', h1, h2⟩ := hel i (by omega)
      obtain ⟨y, hy, hg⟩ := he H enc w n cs' _ h2
      exact ⟨y, ⟨cs', h1, hy⟩, hg⟩
    have all : ∀ k, k ≤ len → ∃ l : List α, l.length = k ∧ ∀ j y, l[j]? = some y → (∃ cs', w.cells? 0 (a.add (j * P.cellsOf e)) (P.cellsOf e) = some cs' ∧ d.K w y cs') ∧ good y := by
      intro k
      induction k with
      | zero => intro _; exact ⟨[], rfl, fun j y hj => by simp at hj⟩
      | succ k ih =>
        intro hk
        obtain ⟨l, h1, h2⟩ := ih (by omega)
        obtain ⟨y, hy⟩ := key k (by omega)
        refine ⟨l ++ [y], by simp [h1], fun j z hz => ?_⟩
        rcases Nat.lt_or_ge j l.length with hj | hj
        · rw [List.getElem?_append_left hj] at hz
          exact h2 j z hz
        · have hj' : j = l.length := by
            have := (List.getElem?_eq_some_iff.1 hz).1
            rw [List.length_append, List.length_singleton] at this
            omega
          subst hj'
          have : y = z := by simpa using hz
          subst this
          rw [h1]
          exact hy
    obtain ⟨l, h1, h2⟩ := all len (Nat.le_refl _)
    refine ⟨l, ⟨some a, m, by rw [h1], by omega, rfl, by omega, fun _ => ⟨a, rfl, fun j y hj => ?_⟩⟩, by omega, fun y hy => ?_⟩
    · obtain ⟨⟨cs', hcs, hk⟩, _⟩ := h2 j y hj
      obtain ⟨_, hlen, hcell⟩ := World.cells?_some hcs
      refine ⟨cs', by rw [hlen, hc], hk, fun i u hi => ?_⟩
      have hlt : i < P.cellsOf e := by rw [← hlen]; exact (List.getElem?_eq_some_iff.1 hi).1
      have := hcell i hlt
      rw [Go.Deep.add_add, hc] at this
      rw [this]
      exact hi
    · obtain ⟨j, hj⟩ := List.getElem?_of_mem hy
      exact (h2 j y hj).2

/-- Fields one behind the other, from cell o on. -/
def OpensF {α : Type} (P : Program) (o n : Nat) (fs : List Field) (d : Kd α) (good : α → Prop) : Prop :=
  ∀ (H : Type) (enc : TypeId × Value → H) (w : World) (fuel : Nat) (cs : List Value), cs.length = o + n →
    (∀ f ∈ fs, ∃ x, DataW.trod enc P w 0 (fun _ => true) true fuel f.type ((cs.drop f.offset).take (P.cellsOf f.type)) = some x) → ∃ a : α, d.K w a (cs.drop o) ∧ good a

theorem opensF_one {α : Type} {P : Program} {o n : Nat} {f : Field} {d : Kd α} {good : α → Prop} (ho : f.offset = o) (hn : P.cellsOf f.type = n) (h : Opens P f.type d good) : OpensF P o n [f] d good := by
  intro H enc w fuel cs hl hx
  obtain ⟨x, hx⟩ := hx f (List.mem_singleton.2 rfl)
  rw [ho, hn, List.take_of_length_le (by rw [List.length_drop]; omega)] at hx
  exact h H enc w fuel _ x hx

theorem opensF_cons {α β : Type} {P : Program} {o n m : Nat} {f : Field} {fs : List Field} {d : Kd α} {d' : Kd β} {good : α → Prop} {good' : β → Prop} (ho : f.offset = o) (hn : P.cellsOf f.type = n) (h : Opens P f.type d good)
    (hs : OpensF P (o + n) m fs d' good') : OpensF P o (n + m) (f :: fs) (Kd.pair d d') (fun p => good p.1 ∧ good' p.2) := by
  intro H enc w fuel cs hl hx
  obtain ⟨x, h1⟩ := hx f List.mem_cons_self
  rw [ho, hn] at h1
  obtain ⟨a, ha, ga⟩ := h H enc w fuel _ x h1
  obtain ⟨b, hb, gb⟩ := hs H enc w fuel cs (by omega) (fun g hg => hx g (List.mem_cons_of_mem _ hg))
  refine ⟨(a, b), ⟨_, _, ?_, ha, hb⟩, ga, gb⟩
  have e : cs.drop (o + n) = (cs.drop o).drop n := by rw [List.drop_drop]
  rw [e, List.take_append_drop]

/-- A struct: of its fields. -/
theorem opens_struct {α β : Type} {P : Program} {t : TypeId} {fs : Array Field} {l : List Field} {n : Nat} {d : Kd α} {good : α → Prop} (h : P.underlying t = some (.struct fs)) (hl : fs.toList = l) (hn : P.cellsOf t = n)
    (hf : OpensF P 0 n l d good) (f : β → α) (g : α → β) (hfg : ∀ a, f (g a) = a) : Opens P t (Kd.iso d f) (fun b => good (f b)) := by
  intro H enc w fuel cs x hx
  obtain ⟨xs, m, rfl, _, hlen, hsz, hall⟩ := DataW.trod_struct h hx
  obtain ⟨a, ha, ga⟩ := hf H enc w m cs (by omega) (fun q hq => by
    rw [← hl] at hq
    obtain ⟨i, hi⟩ := List.getElem?_of_mem hq
    have hi' : fs[i]? = some q := by simpa using hi
    have hlt : i < xs.length := by rw [hsz]; exact (Array.getElem?_eq_some_iff.1 hi').1
    exact ⟨xs[i], by rw [hall i q hi', List.getElem?_eq_getElem hlt]⟩)
  refine ⟨g a, ?_, ?_⟩
  · show d.K w (f (g a)) cs
    rw [hfg]
    simpa using ha
  · show good (f (g a))
    rw [hfg]
    exact ga

theorem opens_weaken {α : Type} {P : Program} {t : TypeId} {d : Kd α} {good good' : α → Prop} (h : Opens P t d good) (hg : ∀ a, good a → good' a) : Opens P t d good' := by
  intro H enc w fuel cs x hx
  obtain ⟨a, h1, h2⟩ := h H enc w fuel cs x hx
  exact ⟨a, h1, hg a h2⟩

/-- A slice argument, by what its cells hold. -/
theorem slice_arg {α : Type} {e : TypeId} {d : Kd α} {w : World} {l : List α} {A : Option Addr} {n c : Nat} (h : (Kd.slice e d).K w l (Value.slice A n c).cells.toList) : n = l.length ∧ l.length ≤ c ∧ Kd.C d w A l.length l := by
  obtain ⟨A', c', he, hl, hC⟩ := h
  simp [Value.cells] at he
  obtain ⟨rfl, rfl, rfl⟩ := he
  exact ⟨rfl, hl, hC⟩

end Go.Proofs.YthcamcmjafhehaaDoor.Opn
