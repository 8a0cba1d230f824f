/- slices.IndexFunc and slices.ContainsFunc at whatever function value that tells of each element what 'g' says. Written by a program of this repo's (idxgen.py). -/
import Derived.Test.YthcamcmjafhehaaDoorWWords
import Derived.Test.YthcamcmjafhehaaDoorProg
import Derived.WalkKit
import Derived.KernelRfl
import Derived.Deep.LoopGhost
import Derived.Shelf.Abstract
namespace Go.Proofs.YthcamcmjafhehaaDoor.Idx
open Go.RowKit Go.Shelf Go.Proofs.YthcamcmjafhehaaDoorW.PrintWords
/-- The first place, from i on, of which g says yes; -1. -/
def idxM {α : Type} (g : α → Option Bool) : List α → Int → Option Int
  | [], _ => some (-1)
  | x :: xs, i => (g x).bind fun t => if t = true then some i else idxM g xs (i + 1)
def anyM {α : Type} (g : α → Option Bool) : List α → Option Bool
  | [] => some false
  | x :: xs => (g x).bind fun t => if t = true then some true else anyM g xs
theorem anyM_of_idxM {α : Type} (g : α → Option Bool) : ∀ (l : List α) (i : Int) (r : Bool), 0 ≤ i → anyM g l = some r → ∃ q, idxM g l i = some q ∧ decide (0 ≤ q) = r
  | [], i, r, _, h => ⟨-1, rfl, by
      have : r = false := (Option.some.inj h).symm
      rw [this]
      decide⟩
  | x :: xs, i, r, hi, h => by
      simp only [anyM] at h
      obtain ⟨t, ht, h⟩ := Option.bind_eq_some_iff.1 h
      simp only [idxM, ht, Option.bind_some]
      cases t with
      | true =>
        rw [if_pos rfl] at h
        obtain rfl := Option.some.inj h
        exact ⟨i, by rw [if_pos rfl], decide_eq_true hi⟩
      | false =>
        rw [if_neg (by decide)] at h
        obtain ⟨q, h1, h2⟩ := anyM_of_idxM g xs (i + 1) r (by omega) h
        exact ⟨q, by rw [if_neg (by decide)]; exact h1, h2⟩
theorem leo_anyM {α : Type} {g g' : α → Option Bool} (h : ∀ x, LeO (g x) (g' x)) : ∀ l : List α, LeO (anyM g l) (anyM g' l)
  | [] => LeO.refl _
  | x :: xs => by
      unfold anyM
      exact LeO.bind (h x) (fun t => LeO.ite (LeO.refl _) (leo_anyM h xs))
theorem leo_idxM {α : Type} {g g' : α → Option Bool} (h : ∀ x, LeO (g x) (g' x)) : ∀ (l : List α) (i : Int), LeO (idxM g l i) (idxM g' l i)
  | [], _ => LeO.refl _
  | x :: xs, i => by
      unfold idxM
      exact LeO.bind (h x) (fun t => LeO.ite (LeO.refl _) (leo_idxM h xs (i + 1)))
theorem below_drawn {w w' : World} (h : Drawn0 w w') : Below w.heap.size w w' := by
  obtain ⟨m, rfl⟩ := h
  exact pw_below_drewN (Below.refl _ _) m
/-- What is asked of the function value: at each element, in every later world, it tells what g tells. -/
def Tells {α : Type} (P : Program) (F : Nat) (caps : Array Value) (d : Kd α) (one : Bool) (l : List α) (g : α → Option Bool) (w : World) : Prop :=
  ∀ (x : α) (cs : List Value) (W : World) (r : Bool), x ∈ l → Below w.heap.size w W → d.K W x cs → g x = some r →
    Calls P F (#[if one then cs.headD (Value.nilIface) else .agg cs.toArray] ++ caps) W fun e W' => e = .returned (.bool r) ∧ Below W.heap.size W W'

set_option maxHeartbeats 4000000 in
set_option maxRecDepth 100000 in
/-- slices.IndexFunc at loop.example/g00039/impl.Policy. -/
theorem indexFunc_impl_Policy {α : Type} (z : α) (d : Kd α) (hsz : d.sz = 3) (F : Nat) (caps : Array Value) (eg : ∀ args w, (callFunc F args).run Tryd.prog w = .ok (.enter F args) w)
    (g : α → Option Bool) (A0 : Option Addr) (c0 : Nat) (l : List α) (w : World) (hC : Kd.C d w A0 l.length l) (hF : Tells Tryd.prog F caps d false l g w) (r : Int) (h : idxM g l 0 = some r) :
    Calls Tryd.prog 57 #[.slice A0 l.length c0, .func (.func F) #[] caps] w fun e w' => e = .returned (.int .i64 r) ∧ Below w.heap.size w w' := by
  have hmax := hC.2.1
  have HC := Aside0.mk hC
  have HF := Aside0.mk hF
  have H0 := Aside0.mk h
  clear hC hF h
  go_enter Tryd.func57, Tryd.ntmps57
  go_wp2
  go_loopg [5, 8] l.length (fun gg _ s8 wr => ∃ i : Nat, i ≤ l.length ∧ l.length - i ≤ gg ∧ s8 = .int .i64 i ∧ Aside0 (Below w.heap.size w wr) ∧ Aside0 (idxM g (l.drop i) (i : Int) = some r))
  case atStart => exact ⟨0, Nat.zero_le _, by omega, rfl, ⟨Below.refl _ w⟩, H0⟩
  case round =>
    clear H0
    obtain ⟨i, hi, hg, rfl, HB, HI⟩ := hrel
    by_cases hlt : i < l.length
    · have h2 := HI.out
      rw [List.drop_eq_getElem_cons hlt] at h2
      simp only [idxM] at h2
      obtain ⟨t, ht, h2⟩ := Option.bind_eq_some_iff.1 h2
      obtain ⟨ad, cs, rfl, hlen, hK, hc⟩ := Kd.C_get HC.out z (i : Int) (by omega) (by omega)
      rw [hsz] at hlen hc
      rw [Int.toNat_natCast] at hK hc
      have hget : l.getD i z = l[i] := by rw [List.getD_eq_getElem?_getD, List.getElem?_eq_getElem hlt]; rfl
      rw [hget] at hK
      have hcall := fun W (hb : Below w.heap.size w W) => HF.out l[i] cs W t (List.getElem_mem _) hb (d.K_below hb hK) ht
      match cs, hlen with
      | [u0, u1, u2], _ =>
        have hx0 : wr.cell? (ad.add (i * 3)) = some u0 := (HB.out.cell (World.block_lt_of_cell? w _ (hc 0 u0 rfl))).trans (hc 0 u0 rfl)
        have hx1 : wr.cell? ⟨(ad.add (i * 3)).block, (ad.add (i * 3)).off + 1, none⟩ = some u1 := by rw [← add_field _ _ 1 (by omega)]; exact (HB.out.cell (World.block_lt_of_cell? w _ (hc 1 u1 rfl))).trans (hc 1 u1 rfl)
        have hx2 : wr.cell? ⟨(ad.add (i * 3)).block, (ad.add (i * 3)).off + 2, none⟩ = some u2 := by rw [← add_field _ _ 2 (by omega)]; exact (HB.out.cell (World.block_lt_of_cell? w _ (hc 2 u2 rfl))).trans (hc 2 u2 rfl)
        have HCALL := Aside0.mk hcall
        have H2 := Aside0.mk h2
        have hltz : (i : Int) < (l.length : Int) := by omega
        clear hcall hc hK h2 ht hget
        cases t with
        | true =>
          have e : r = (i : Int) := by
            have h2 := H2.out
            rw [if_pos rfl] at h2
            exact (Option.some.inj h2).symm
          go_wp2_with (go_at_fn F; refine (HCALL.out _ HB.out).mono ?_; rintro e w' ⟨rfl, hb⟩)
          go_ret
          exact ⟨by rw [e]; rfl, HB.out.trans (hb.mono (by have := HB.out.size; omega))⟩
        | false =>
          go_wp2_with (go_at_fn F; refine (HCALL.out _ HB.out).mono ?_; rintro e w' ⟨rfl, hb⟩)
          go_roundg (l.length - (i + 1))
          case measure => omega
          case rel =>
            refine ⟨i + 1, by omega, by omega, by go_num, ⟨HB.out.trans (hb.mono (by have := HB.out.size; omega))⟩, ⟨?_⟩⟩
            have h2 := H2.out
            rw [if_neg (by decide)] at h2
            exact h2
    · have e : i = l.length := by omega
      subst e
      have h2 := HI.out
      rw [List.drop_length] at h2
      have e : r = -1 := (Option.some.inj h2).symm
      have HE := Aside0.mk e
      clear e h2
      go_wp2
      go_ret
      exact ⟨by rw [HE.out]; rfl, HB.out⟩


set_option maxHeartbeats 4000000 in
set_option maxRecDepth 100000 in
/-- slices.ContainsFunc at loop.example/g00039/impl.Policy. -/
theorem containsFunc_impl_Policy {α : Type} (z : α) (d : Kd α) (hsz : d.sz = 3) (F : Nat) (caps : Array Value) (eg : ∀ args w, (callFunc F args).run Tryd.prog w = .ok (.enter F args) w)
    (g : α → Option Bool) (A0 : Option Addr) (c0 : Nat) (l : List α) (w : World) (hC : Kd.C d w A0 l.length l) (hF : Tells Tryd.prog F caps d false l g w) (r : Bool) (h : anyM g l = some r) :
    Calls Tryd.prog 44 #[.slice A0 l.length c0, .func (.func F) #[] caps] w fun e w' => e = .returned (.bool r) ∧ Below w.heap.size w w' := by
  obtain ⟨q, hq, hr⟩ := anyM_of_idxM g l 0 r (Int.le_refl _) h
  have hcon := indexFunc_impl_Policy z d hsz F caps eg g A0 c0 l w hC hF q hq
  have HCON := Aside0.mk hcon
  have HR := Aside0.mk hr
  clear hcon hr hF hC hq h eg
  go_enter Tryd.func44, Tryd.ntmps44
  go_wp2_with (go_at_call 57; refine HCON.out.mono ?_; rintro e w' ⟨rfl, hb⟩)
  go_ret
  exact ⟨by rw [← HR.out]; rfl, hb⟩


set_option maxHeartbeats 4000000 in
set_option maxRecDepth 100000 in
/-- slices.IndexFunc at loop.example/g00039/impl.Trace. -/
theorem indexFunc_impl_Trace {α : Type} (z : α) (d : Kd α) (hsz : d.sz = 2) (F : Nat) (caps : Array Value) (eg : ∀ args w, (callFunc F args).run Tryd.prog w = .ok (.enter F args) w)
    (g : α → Option Bool) (A0 : Option Addr) (c0 : Nat) (l : List α) (w : World) (hC : Kd.C d w A0 l.length l) (hF : Tells Tryd.prog F caps d false l g w) (r : Int) (h : idxM g l 0 = some r) :
    Calls Tryd.prog 48 #[.slice A0 l.length c0, .func (.func F) #[] caps] w fun e w' => e = .returned (.int .i64 r) ∧ Below w.heap.size w w' := by
  have hmax := hC.2.1
  have HC := Aside0.mk hC
  have HF := Aside0.mk hF
  have H0 := Aside0.mk h
  clear hC hF h
  go_enter Tryd.func48, Tryd.ntmps48
  go_wp2
  go_loopg [5, 8] l.length (fun gg _ s8 wr => ∃ i : Nat, i ≤ l.length ∧ l.length - i ≤ gg ∧ s8 = .int .i64 i ∧ Aside0 (Below w.heap.size w wr) ∧ Aside0 (idxM g (l.drop i) (i : Int) = some r))
  case atStart => exact ⟨0, Nat.zero_le _, by omega, rfl, ⟨Below.refl _ w⟩, H0⟩
  case round =>
    clear H0
    obtain ⟨i, hi, hg, rfl, HB, HI⟩ := hrel
    by_cases hlt : i < l.length
    · have h2 := HI.out
      rw [List.drop_eq_getElem_cons hlt] at h2
      simp only [idxM] at h2
      obtain ⟨t, ht, h2⟩ := Option.bind_eq_some_iff.1 h2
      obtain ⟨ad, cs, rfl, hlen, hK, hc⟩ := Kd.C_get HC.out z (i : Int) (by omega) (by omega)
      rw [hsz] at hlen hc
      rw [Int.toNat_natCast] at hK hc
      have hget : l.getD i z = l[i] := by rw [List.getD_eq_getElem?_getD, List.getElem?_eq_getElem hlt]; rfl
      rw [hget] at hK
      have hcall := fun W (hb : Below w.heap.size w W) => HF.out l[i] cs W t (List.getElem_mem _) hb (d.K_below hb hK) ht
      match cs, hlen with
      | [u0, u1], _ =>
        have hx0 : wr.cell? (ad.add (i * 2)) = some u0 := (HB.out.cell (World.block_lt_of_cell? w _ (hc 0 u0 rfl))).trans (hc 0 u0 rfl)
        have hx1 : wr.cell? ⟨(ad.add (i * 2)).block, (ad.add (i * 2)).off + 1, none⟩ = some u1 := by rw [← add_field _ _ 1 (by omega)]; exact (HB.out.cell (World.block_lt_of_cell? w _ (hc 1 u1 rfl))).trans (hc 1 u1 rfl)
        have HCALL := Aside0.mk hcall
        have H2 := Aside0.mk h2
        have hltz : (i : Int) < (l.length : Int) := by omega
        clear hcall hc hK h2 ht hget
        cases t with
        | true =>
          have e : r = (i : Int) := by
            have h2 := H2.out
            rw [if_pos rfl] at h2
            exact (Option.some.inj h2).symm
          go_wp2_with (go_at_fn F; refine (HCALL.out _ HB.out).mono ?_; rintro e w' ⟨rfl, hb⟩)
          go_ret
          exact ⟨by rw [e]; rfl, HB.out.trans (hb.mono (by have := HB.out.size; omega))⟩
        | false =>
          go_wp2_with (go_at_fn F; refine (HCALL.out _ HB.out).mono ?_; rintro e w' ⟨rfl, hb⟩)
          go_roundg (l.length - (i + 1))
          case measure => omega
          case rel =>
            refine ⟨i + 1, by omega, by omega, by go_num, ⟨HB.out.trans (hb.mono (by have := HB.out.size; omega))⟩, ⟨?_⟩⟩
            have h2 := H2.out
            rw [if_neg (by decide)] at h2
            exact h2
    · have e : i = l.length := by omega
      subst e
      have h2 := HI.out
      rw [List.drop_length] at h2
      have e : r = -1 := (Option.some.inj h2).symm
      have HE := Aside0.mk e
      clear e h2
      go_wp2
      go_ret
      exact ⟨by rw [HE.out]; rfl, HB.out⟩


set_option maxHeartbeats 4000000 in
set_option maxRecDepth 100000 in
/-- slices.ContainsFunc at loop.example/g00039/impl.Trace. -/
theorem containsFunc_impl_Trace {α : Type} (z : α) (d : Kd α) (hsz : d.sz = 2) (F : Nat) (caps : Array Value) (eg : ∀ args w, (callFunc F args).run Tryd.prog w = .ok (.enter F args) w)
    (g : α → Option Bool) (A0 : Option Addr) (c0 : Nat) (l : List α) (w : World) (hC : Kd.C d w A0 l.length l) (hF : Tells Tryd.prog F caps d false l g w) (r : Bool) (h : anyM g l = some r) :
    Calls Tryd.prog 25 #[.slice A0 l.length c0, .func (.func F) #[] caps] w fun e w' => e = .returned (.bool r) ∧ Below w.heap.size w w' := by
  obtain ⟨q, hq, hr⟩ := anyM_of_idxM g l 0 r (Int.le_refl _) h
  have hcon := indexFunc_impl_Trace z d hsz F caps eg g A0 c0 l w hC hF q hq
  have HCON := Aside0.mk hcon
  have HR := Aside0.mk hr
  clear hcon hr hF hC hq h eg
  go_enter Tryd.func25, Tryd.ntmps25
  go_wp2_with (go_at_call 48; refine HCON.out.mono ?_; rintro e w' ⟨rfl, hb⟩)
  go_ret
  exact ⟨by rw [← HR.out]; rfl, hb⟩


set_option maxHeartbeats 4000000 in
set_option maxRecDepth 100000 in
/-- slices.IndexFunc at loop.example/g00039/impl.Call. -/
theorem indexFunc_impl_Call {α : Type} (z : α) (d : Kd α) (hsz : d.sz = 7) (F : Nat) (caps : Array Value) (eg : ∀ args w, (callFunc F args).run Tryd.prog w = .ok (.enter F args) w)
    (g : α → Option Bool) (A0 : Option Addr) (c0 : Nat) (l : List α) (w : World) (hC : Kd.C d w A0 l.length l) (hF : Tells Tryd.prog F caps d false l g w) (r : Int) (h : idxM g l 0 = some r) :
    Calls Tryd.prog 49 #[.slice A0 l.length c0, .func (.func F) #[] caps] w fun e w' => e = .returned (.int .i64 r) ∧ Below w.heap.size w w' := by
  have hmax := hC.2.1
  have HC := Aside0.mk hC
  have HF := Aside0.mk hF
  have H0 := Aside0.mk h
  clear hC hF h
  go_enter Tryd.func49, Tryd.ntmps49
  go_wp2
  go_loopg [5, 8] l.length (fun gg _ s8 wr => ∃ i : Nat, i ≤ l.length ∧ l.length - i ≤ gg ∧ s8 = .int .i64 i ∧ Aside0 (Below w.heap.size w wr) ∧ Aside0 (idxM g (l.drop i) (i : Int) = some r))
  case atStart => exact ⟨0, Nat.zero_le _, by omega, rfl, ⟨Below.refl _ w⟩, H0⟩
  case round =>
    clear H0
    obtain ⟨i, hi, hg, rfl, HB, HI⟩ := hrel
    by_cases hlt : i < l.length
    · have h2 := HI.out
      rw [List.drop_eq_getElem_cons hlt] at h2
      simp only [idxM] at h2
      obtain ⟨t, ht, h2⟩ := Option.bind_eq_some_iff.1 h2
      obtain ⟨ad, cs, rfl, hlen, hK, hc⟩ := Kd.C_get HC.out z (i : Int) (by omega) (by omega)
      rw [hsz] at hlen hc
      rw [Int.toNat_natCast] at hK hc
      have hget : l.getD i z = l[i] := by rw [List.getD_eq_getElem?_getD, List.getElem?_eq_getElem hlt]; rfl
      rw [hget] at hK
      have hcall := fun W (hb : Below w.heap.size w W) => HF.out l[i] cs W t (List.getElem_mem _) hb (d.K_below hb hK) ht
      match cs, hlen with
      | [u0, u1, u2, u3, u4, u5, u6], _ =>
        have hx0 : wr.cell? (ad.add (i * 7)) = some u0 := (HB.out.cell (World.block_lt_of_cell? w _ (hc 0 u0 rfl))).trans (hc 0 u0 rfl)
        have hx1 : wr.cell? ⟨(ad.add (i * 7)).block, (ad.add (i * 7)).off + 1, none⟩ = some u1 := by rw [← add_field _ _ 1 (by omega)]; exact (HB.out.cell (World.block_lt_of_cell? w _ (hc 1 u1 rfl))).trans (hc 1 u1 rfl)
        have hx2 : wr.cell? ⟨(ad.add (i * 7)).block, (ad.add (i * 7)).off + 2, none⟩ = some u2 := by rw [← add_field _ _ 2 (by omega)]; exact (HB.out.cell (World.block_lt_of_cell? w _ (hc 2 u2 rfl))).trans (hc 2 u2 rfl)
        have hx3 : wr.cell? ⟨(ad.add (i * 7)).block, (ad.add (i * 7)).off + 3, none⟩ = some u3 := by rw [← add_field _ _ 3 (by omega)]; exact (HB.out.cell (World.block_lt_of_cell? w _ (hc 3 u3 rfl))).trans (hc 3 u3 rfl)
        have hx4 : wr.cell? ⟨(ad.add (i * 7)).block, (ad.add (i * 7)).off + 4, none⟩ = some u4 := by rw [← add_field _ _ 4 (by omega)]; exact (HB.out.cell (World.block_lt_of_cell? w _ (hc 4 u4 rfl))).trans (hc 4 u4 rfl)
        have hx5 : wr.cell? ⟨(ad.add (i * 7)).block, (ad.add (i * 7)).off + 5, none⟩ = some u5 := by rw [← add_field _ _ 5 (by omega)]; exact (HB.out.cell (World.block_lt_of_cell? w _ (hc 5 u5 rfl))).trans (hc 5 u5 rfl)
        have hx6 : wr.cell? ⟨(ad.add (i * 7)).block, (ad.add (i * 7)).off + 6, none⟩ = some u6 := by rw [← add_field _ _ 6 (by omega)]; exact (HB.out.cell (World.block_lt_of_cell? w _ (hc 6 u6 rfl))).trans (hc 6 u6 rfl)
        have HCALL := Aside0.mk hcall
        have H2 := Aside0.mk h2
        have hltz : (i : Int) < (l.length : Int) := by omega
        clear hcall hc hK h2 ht hget
        cases t with
        | true =>
          have e : r = (i : Int) := by
            have h2 := H2.out
            rw [if_pos rfl] at h2
            exact (Option.some.inj h2).symm
          go_wp2_with (go_at_fn F; refine (HCALL.out _ HB.out).mono ?_; rintro e w' ⟨rfl, hb⟩)
          go_ret
          exact ⟨by rw [e]; rfl, HB.out.trans (hb.mono (by have := HB.out.size; omega))⟩
        | false =>
          go_wp2_with (go_at_fn F; refine (HCALL.out _ HB.out).mono ?_; rintro e w' ⟨rfl, hb⟩)
          go_roundg (l.length - (i + 1))
          case measure => omega
          case rel =>
            refine ⟨i + 1, by omega, by omega, by go_num, ⟨HB.out.trans (hb.mono (by have := HB.out.size; omega))⟩, ⟨?_⟩⟩
            have h2 := H2.out
            rw [if_neg (by decide)] at h2
            exact h2
    · have e : i = l.length := by omega
      subst e
      have h2 := HI.out
      rw [List.drop_length] at h2
      have e : r = -1 := (Option.some.inj h2).symm
      have HE := Aside0.mk e
      clear e h2
      go_wp2
      go_ret
      exact ⟨by rw [HE.out]; rfl, HB.out⟩


set_option maxHeartbeats 4000000 in
set_option maxRecDepth 100000 in
/-- slices.ContainsFunc at loop.example/g00039/impl.Call. -/
theorem containsFunc_impl_Call {α : Type} (z : α) (d : Kd α) (hsz : d.sz = 7) (F : Nat) (caps : Array Value) (eg : ∀ args w, (callFunc F args).run Tryd.prog w = .ok (.enter F args) w)
    (g : α → Option Bool) (A0 : Option Addr) (c0 : Nat) (l : List α) (w : World) (hC : Kd.C d w A0 l.length l) (hF : Tells Tryd.prog F caps d false l g w) (r : Bool) (h : anyM g l = some r) :
    Calls Tryd.prog 28 #[.slice A0 l.length c0, .func (.func F) #[] caps] w fun e w' => e = .returned (.bool r) ∧ Below w.heap.size w w' := by
  obtain ⟨q, hq, hr⟩ := anyM_of_idxM g l 0 r (Int.le_refl _) h
  have hcon := indexFunc_impl_Call z d hsz F caps eg g A0 c0 l w hC hF q hq
  have HCON := Aside0.mk hcon
  have HR := Aside0.mk hr
  clear hcon hr hF hC hq h eg
  go_enter Tryd.func28, Tryd.ntmps28
  go_wp2_with (go_at_call 49; refine HCON.out.mono ?_; rintro e w' ⟨rfl, hb⟩)
  go_ret
  exact ⟨by rw [← HR.out]; rfl, hb⟩

end Go.Proofs.YthcamcmjafhehaaDoor.Idx
