/- slices.SortFunc's family at this dump: the shelf's laying, in plain words. Written by a program of this repo's (sortgen.py). -/
import Derived.Shelf.SlSortCmp.WholeK
import Derived.Test.YtgdekdcbfnghoaaProg
import Derived.KernelRfl
namespace Go.Proofs.Ytgdekdcbfnghoaa.SortLay
open Go.Shelf Go.Proofs Go.Proofs.Ytgdekdcbfnghoaa
def ren : Ren := { f := fun x => match x with | 6 => 30 | 14 => 40 | 15 => 41 | 20 => 46 | 21 => 47 | 22 => 48 | 23 => 49 | 24 => 50 | 25 => 51 | 26 => 52 | 27 => 53 | 28 => 54 | 29 => 55 | 46 => 61 | 47 => 62 | 48 => 63 | 49 => 64 | 50 => 65 | 57 => 68 | _ => 0, t := fun x => match x with | 0 => 0 | 3 => 3 | 4 => 4 | 5 => 5 | 9 => 9 | 22 => 22 | 24 => 30 | 25 => 46 | 39 => 51 | 45 => 54 | 46 => 55 | 50 => 59 | 53 => 62 | 55 => 64 | 66 => 67 | 70 => 71 | 76 => 75 | 77 => 76 | _ => 0, g := fun x => x }
set_option maxRecDepth 100000 in
theorem lays : SlLaysF0.n6 Try.prog ren := {
  mixed := by kernel_rfl
  f6 := ⟨Try.f30.name, by kernel_rfl, Try.func30.trans (by kernel_rfl)⟩
  f14 := ⟨Try.f40.name, by kernel_rfl, Try.func40.trans (by kernel_rfl)⟩
  f15 := Try.func41.trans (by kernel_rfl)
  f20 := ⟨Try.f46.name, by kernel_rfl, Try.func46.trans (by kernel_rfl)⟩
  f21 := ⟨Try.f47.name, by kernel_rfl, Try.func47.trans (by kernel_rfl)⟩
  f22 := ⟨Try.f48.name, by kernel_rfl, Try.func48.trans (by kernel_rfl)⟩
  f23 := ⟨Try.f49.name, by kernel_rfl, Try.func49.trans (by kernel_rfl)⟩
  f24 := ⟨Try.f50.name, by kernel_rfl, Try.func50.trans (by kernel_rfl)⟩
  f25 := ⟨Try.f51.name, by kernel_rfl, Try.func51.trans (by kernel_rfl)⟩
  f26 := ⟨Try.f52.name, by kernel_rfl, Try.func52.trans (by kernel_rfl)⟩
  f27 := ⟨Try.f53.name, by kernel_rfl, Try.func53.trans (by kernel_rfl)⟩
  f28 := Try.func54.trans (by kernel_rfl)
  f29 := Try.func55.trans (by kernel_rfl)
  f46 := ⟨Try.f61.name, by kernel_rfl, Try.func61.trans (by kernel_rfl)⟩
  f47 := Try.func62.trans (by kernel_rfl)
  f48 := Try.func63.trans (by kernel_rfl)
  f49 := ⟨Try.f64.name, by kernel_rfl, Try.func64.trans (by kernel_rfl)⟩
  f50 := ⟨Try.f65.name, by kernel_rfl, Try.func65.trans (by kernel_rfl)⟩
  f57 := ⟨Try.f68.name, by kernel_rfl, Try.func68.trans (by kernel_rfl)⟩
  t0 := Try.underlying0
  a0 := Try.isAgg0
  z0 := Try.sizeOf0
  v0 := Try.zeroValue0
  t3 := Try.underlying3
  a3 := Try.isAgg3
  z3 := Try.sizeOf3
  v3 := Try.zeroValue3
  t4 := Try.underlying4
  a4 := Try.isAgg4
  z4 := Try.sizeOf4
  v4 := Try.zeroValue4
  t5 := Try.underlying5
  a5 := Try.isAgg5
  z5 := Try.sizeOf5
  v5 := Try.zeroValue5
  t9 := Try.underlying9
  a9 := Try.isAgg9
  z9 := Try.sizeOf9
  v9 := Try.zeroValue9
  t22 := Try.underlying22
  a22 := Try.isAgg22
  z22 := Try.sizeOf22
  v22 := Try.zeroValue22
  t25 := Try.underlying46
  a25 := Try.isAgg46
  z25 := Try.sizeOf46
  v25 := Try.zeroValue46
  t39 := Try.underlying51
  a39 := Try.isAgg51
  z39 := Try.sizeOf51
  v39 := Try.zeroValue51
  t45 := Try.underlying54
  a45 := Try.isAgg54
  z45 := Try.sizeOf54
  v45 := Try.zeroValue54
  t46 := Try.underlying55
  a46 := Try.isAgg55
  z46 := Try.sizeOf55
  v46 := Try.zeroValue55
  t50 := Try.underlying59
  a50 := Try.isAgg59
  z50 := Try.sizeOf59
  v50 := Try.zeroValue59
  t53 := Try.underlying62
  a53 := Try.isAgg62
  z53 := Try.sizeOf62
  v53 := Try.zeroValue62
  t55 := Try.underlying64
  a55 := Try.isAgg64
  z55 := Try.sizeOf64
  v55 := Try.zeroValue64
  t66 := Try.underlying67
  a66 := Try.isAgg67
  z66 := Try.sizeOf67
  v66 := Try.zeroValue67
  t70 := Try.underlying71
  a70 := Try.isAgg71
  z70 := Try.sizeOf71
  v70 := Try.zeroValue71
  t76 := Try.underlying75
  a76 := Try.isAgg75
  z76 := Try.sizeOf75
  v76 := Try.zeroValue75
  t77 := Try.underlying76
  a77 := Try.isAgg76
  z77 := Try.sizeOf76
  v77 := Try.zeroValue76
  }
end Go.Proofs.Ytgdekdcbfnghoaa.SortLay
