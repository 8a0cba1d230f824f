/- A trace's critical path in plain words; what the walks keep of the memory. -/
import Derived.Test.YtcfijablfjbimaaHFilterCall
import Derived.Test.YtcfijablfjbimaaPFnExactCriticalPathx2
namespace Go.Proofs.Ytcfijablfjbimaa.PFnExactCriticalPath
open Go.RowKit Go.Shelf Go.Proofs.YtcfijablfjbimaaW.PrintWords Go.Proofs.YtcfijablfjbimaaW.PrintLast Go.Proofs.YtcfijablfjbimaaW.PrintMore
set_option linter.unusedVariables false
set_option linter.unusedSimpArgs false
abbrev SP := S43
def putM (n a b : Int) (out : List SP) : List SP := if a < b then out ++ [⟨n, a, b⟩] else out
def endM (k : SC) (m : Int) : Int := if m < k.f5 then m else k.f5
def canM (m : Int) (k : SC) : Bool := decide (k.f4 < k.f5) && decide (k.f4 < m)
def nextV (m : Int) (acc : Option SC) (k : SC) : Bool := match acc with
  | none => true
  | some b => decide (endM b m ≤ endM k m)
def stepV (m : Int) (acc : Option SC) (k : SC) : Option SC := if (canM m k && nextV m acc k) = true then some k else acc
def bestV (m : Int) (l : List SC) : Option SC := l.foldl (stepV m) none
def kidsM (l : List SC) (n : Int) : List SC := l.filter (fun x => x.f1 == n)
/-- The parts from a moment in a call back to its From, the last one first; 'k': how deep and how far. -/
def pathF (l : List SC) : Nat → SC → Int → List SP → Option (List SP)
  | 0, _, _, _ => none
  | k + 1, x, m, out => if out.length < 5864062014805 then (match bestV m (kidsM l x.f0) with
    | none => some (putM x.f0 x.f4 m out)
    | some b => (pathF l k b (endM b m) (putM x.f0 (endM b m) m out)).bind fun o => pathF l k x b.f4 o) else none
theorem pathF_mono (l : List SC) : ∀ k x m out r, pathF l k x m out = some r → pathF l (k + 1) x m out = some r
  | 0, _, _, _, _, h => by simp [pathF] at h
  | k + 1, x, m, out, r, h => by
    rw [pathF] at h ⊢
    split at h
    · rename_i hl
      rw [if_pos hl]
      cases hb : bestV m (kidsM l x.f0) with
      | none => rw [hb] at h; exact h
      | some b =>
        rw [hb] at h
        obtain ⟨o, h1, h2⟩ := Option.bind_eq_some_iff.1 h
        exact Option.bind_eq_some_iff.2 ⟨o, pathF_mono l k _ _ _ _ h1, pathF_mono l k _ _ _ _ h2⟩
    · exact absurd h (by simp)
/-! What the walks keep of the memory: all but the variable out, and what lies in rows of parts. -/
def OnlyM (gO : Nat) (w w' : World) : Prop := w.heap.size ≤ w'.heap.size ∧ ∀ i, i < w.heap.size → i ≠ gO → (¬ ∃ cs, w.heap[i]? = some (.cells cs 43 (0, 0))) → w'.heap[i]? = w.heap[i]?
theorem OnlyM.refl (gO : Nat) (w : World) : OnlyM gO w w := ⟨Nat.le_refl _, fun _ _ _ _ => rfl⟩
theorem OnlyM.trans {gO : Nat} {w w1 w2 : World} (h : OnlyM gO w w1) (k : OnlyM gO w1 w2) : OnlyM gO w w2 :=
  ⟨Nat.le_trans h.1 k.1, fun i hi hg ht => by
    have e := h.2 i hi hg ht
    rw [← e] at ht
    exact (k.2 i (Nat.lt_of_lt_of_le hi h.1) hg ht).trans e⟩
theorem OnlyM.of_below {gO : Nat} {w w1 : World} (h : Below w.heap.size w w1) : OnlyM gO w w1 := ⟨h.size, fun i hi _ _ => h.block i hi⟩
theorem OnlyM.blk {gO g : Nat} {w w1 : World} (h : OnlyM gO w w1) {cs : Array Value} {t : TypeId} (hb : w.heap[g]? = some (.cells cs t (0, 0))) (hg : g ≠ gO) (ht : t ≠ 43) : w1.heap[g]? = some (.cells cs t (0, 0)) :=
  (h.2 g (blk_lt hb) hg (fun ⟨cs', e⟩ => by rw [hb] at e; injection e with e; injection e with _ e2; exact ht e2)).trans hb
theorem OnlyM.row {α : Type} {d : Kd α} {gO : Nat} {w w1 : World} (h : OnlyM gO w w1) {e base : Nat} {v : Value} {xs : List α} (hr : d.R e w base (fun _ => True) v xs) (hE : d.E = []) (he : e ≠ 43) {cs : Array Value} {t : TypeId} (ho : w.heap[gO]? = some (.cells cs t (0, 0))) (ht : e ≠ t) : d.R e w1 base (fun _ => True) v xs := by
  refine Kd.R_mono (Kd.R_step (Kd.R_bound hr) (fun k hk hlt => ?_)) (fun _ _ => trivial)
  obtain ⟨_, _, _, q, hq, cells, hc⟩ := hk
  rw [hE, List.mem_singleton] at hq
  subst hq
  refine h.2 k hlt (blk_ne hc ho ht) (fun ⟨cs', e'⟩ => ?_)
  rw [hc] at e'
  injection e' with e'
  injection e' with _ e2
  exact he e2
/-- The four variables of the call, and the row of parts. -/
structure EnvM (w0 : World) (gT gP gB gO : Nat) (n : Int) (A : Option Addr) (c : Nat) (l : List SC) (w : World) (out : List SP) : Prop where
  t : w.heap[gT]? = some (.cells #[.int .i64 n, .slice A l.length c] 30 (0, 0))
  p : w.heap[gP]? = some (.cells #[.func (.func 18) #[] #[.pointer (some ⟨gO, 0, none⟩)]] 45 (0, 0))
  b : w.heap[gB]? = some (.cells #[.func (.func 19) #[] #[.pointer (some ⟨gT, 0, none⟩), .pointer (some ⟨gP, 0, none⟩), .pointer (some ⟨gB, 0, none⟩)]] 46 (0, 0))
  o : ∃ v, w.heap[gO]? = some (.cells #[v] 26 (0, 0)) ∧ Kd.R k43 43 w w0.heap.size (fun _ => True) v out
  low : Below w0.heap.size w0 w
  ge : w0.heap.size ≤ gO
theorem EnvM.below {w0 : World} {gT gP gB gO : Nat} {n : Int} {A : Option Addr} {c : Nat} {l : List SC} {w w1 : World} {out : List SP} (h : EnvM w0 gT gP gB gO n A c l w out) (hb : Below w.heap.size w w1) : EnvM w0 gT gP gB gO n A c l w1 out := by
  obtain ⟨v, ho, hr⟩ := h.o
  exact ⟨blk_below h.t hb, blk_below h.p hb, blk_below h.b hb, ⟨v, blk_below ho hb, Kd.R_below hr hb⟩, below_step h.low hb, h.ge⟩
theorem EnvM.only {w0 : World} {gT gP gB gO : Nat} {n : Int} {A : Option Addr} {c : Nat} {l : List SC} {w w1 : World} {out : List SP} (h : EnvM w0 gT gP gB gO n A c l w out) {g : Nat} {cs : Array Value} {t : TypeId} (hg : w.heap[g]? = some (.cells cs t (0, 0))) (ht : t ≠ 43) (ht2 : t ≠ 26) (ho : OnlyM gO w w1) : w1.heap[g]? = some (.cells cs t (0, 0)) := by
  obtain ⟨v, hO, _⟩ := h.o
  exact ho.blk hg (blk_ne hg hO ht2) ht
end Go.Proofs.Ytcfijablfjbimaa.PFnExactCriticalPath
