/- slices.SortFunc's family at this dump: the shelf's laying, in plain words. Written by a program of this repo's (sortgen.py). -/
import Derived.Shelf.SlSortCmp.WholeK
import Derived.Test.YtpnldoegchjmmaaProg
import Derived.KernelRfl
namespace Go.Proofs.Ytpnldoegchjmmaa.SortLay
open Go.Shelf Go.Proofs Go.Proofs.Ytpnldoegchjmmaa
def ren : Ren := { f := fun x => match x with | 6 => 30 | 14 => 41 | 15 => 42 | 20 => 50 | 21 => 51 | 22 => 52 | 23 => 53 | 24 => 54 | 25 => 55 | 26 => 56 | 27 => 57 | 28 => 58 | 29 => 59 | 46 => 63 | 47 => 64 | 48 => 65 | 49 => 66 | 50 => 67 | 57 => 68 | _ => 0, t := fun x => match x with | 0 => 0 | 3 => 3 | 4 => 4 | 5 => 5 | 9 => 9 | 22 => 22 | 24 => 39 | 25 => 54 | 39 => 59 | 45 => 64 | 46 => 65 | 50 => 69 | 53 => 72 | 55 => 74 | 66 => 77 | 70 => 81 | 76 => 83 | 77 => 84 | _ => 0, g := fun x => x }
set_option maxRecDepth 100000 in
theorem lays : SlLaysF0.n6 Try.prog ren := {
  mixed := by kernel_rfl
  f6 := ⟨Try.f30.name, by kernel_rfl, Try.func30.trans (by kernel_rfl)⟩
  f14 := ⟨Try.f41.name, by kernel_rfl, Try.func41.trans (by kernel_rfl)⟩
  f15 := Try.func42.trans (by kernel_rfl)
  f20 := ⟨Try.f50.name, by kernel_rfl, Try.func50.trans (by kernel_rfl)⟩
  f21 := ⟨Try.f51.name, by kernel_rfl, Try.func51.trans (by kernel_rfl)⟩
  f22 := ⟨Try.f52.name, by kernel_rfl, Try.func52.trans (by kernel_rfl)⟩
  f23 := ⟨Try.f53.name, by kernel_rfl, Try.func53.trans (by kernel_rfl)⟩
  f24 := ⟨Try.f54.name, by kernel_rfl, Try.func54.trans (by kernel_rfl)⟩
  f25 := ⟨Try.f55.name, by kernel_rfl, Try.func55.trans (by kernel_rfl)⟩
  f26 := ⟨Try.f56.name, by kernel_rfl, Try.func56.trans (by kernel_rfl)⟩
  f27 := ⟨Try.f57.name, by kernel_rfl, Try.func57.trans (by kernel_rfl)⟩
  f28 := Try.func58.trans (by kernel_rfl)
  f29 := Try.func59.trans (by kernel_rfl)
  f46 := ⟨Try.f63.name, by kernel_rfl, Try.func63.trans (by kernel_rfl)⟩
  f47 := Try.func64.trans (by kernel_rfl)
  f48 := Try.func65.trans (by kernel_rfl)
  f49 := ⟨Try.f66.name, by kernel_rfl, Try.func66.trans (by kernel_rfl)⟩
  f50 := ⟨Try.f67.name, by kernel_rfl, Try.func67.trans (by kernel_rfl)⟩
  f57 := ⟨Try.f68.name, by kernel_rfl, Try.func68.trans (by kernel_rfl)⟩
  t0 := Try.underlying0
  a0 := Try.isAgg0
  z0 := Try.sizeOf0
  v0 := Try.zeroValue0
  t3 := Try.underlying3
  a3 := Try.isAgg3
  z3 := Try.sizeOf3
  v3 := Try.zeroValue3
  t4 := Try.underlying4
  a4 := Try.isAgg4
  z4 := Try.sizeOf4
  v4 := Try.zeroValue4
  t5 := Try.underlying5
  a5 := Try.isAgg5
  z5 := Try.sizeOf5
  v5 := Try.zeroValue5
  t9 := Try.underlying9
  a9 := Try.isAgg9
  z9 := Try.sizeOf9
  v9 := Try.zeroValue9
  t22 := Try.underlying22
  a22 := Try.isAgg22
  z22 := Try.sizeOf22
  v22 := Try.zeroValue22
  t25 := Try.underlying54
  a25 := Try.isAgg54
  z25 := Try.sizeOf54
  v25 := Try.zeroValue54
  t39 := Try.underlying59
  a39 := Try.isAgg59
  z39 := Try.sizeOf59
  v39 := Try.zeroValue59
  t45 := Try.underlying64
  a45 := Try.isAgg64
  z45 := Try.sizeOf64
  v45 := Try.zeroValue64
  t46 := Try.underlying65
  a46 := Try.isAgg65
  z46 := Try.sizeOf65
  v46 := Try.zeroValue65
  t50 := Try.underlying69
  a50 := Try.isAgg69
  z50 := Try.sizeOf69
  v50 := Try.zeroValue69
  t53 := Try.underlying72
  a53 := Try.isAgg72
  z53 := Try.sizeOf72
  v53 := Try.zeroValue72
  t55 := Try.underlying74
  a55 := Try.isAgg74
  z55 := Try.sizeOf74
  v55 := Try.zeroValue74
  t66 := Try.underlying77
  a66 := Try.isAgg77
  z66 := Try.sizeOf77
  v66 := Try.zeroValue77
  t70 := Try.underlying81
  a70 := Try.isAgg81
  z70 := Try.sizeOf81
  v70 := Try.zeroValue81
  t76 := Try.underlying83
  a76 := Try.isAgg83
  z76 := Try.sizeOf83
  v76 := Try.zeroValue83
  t77 := Try.underlying84
  a77 := Try.isAgg84
  z77 := Try.sizeOf84
  v77 := Try.zeroValue84
  }
end Go.Proofs.Ytpnldoegchjmmaa.SortLay
