/- A laying of the shelf's at this dump, in plain words. Written by a program of this repo's (laygen.py). -/
import Derived.Shelf.Strings.Search3
import Derived.Test.YtpnldoegchjmmaaProg
import Derived.KernelRfl
namespace Go.Proofs.Ytpnldoegchjmmaa.IdxLay
open Go.Shelf Go.Proofs Go.Proofs.Ytpnldoegchjmmaa
def ren : Ren := { f := fun x => match x with | 143 => 28 | 217 => 46 | 219 => 40 | 224 => 48 | 225 => 47 | 266 => 61 | 267 => 49 | 314 => 62 | _ => 0, t := fun x => match x with | 3 => 3 | 4 => 4 | 5 => 5 | 9 => 9 | 46 => 59 | 51 => 72 | 146 => 75 | _ => 0, g := fun x => match x with | 1 => 0 | _ => 0 }
set_option maxRecDepth 100000 in
theorem lays : Lays.n143 Try.prog ren := {
  mixed := by kernel_rfl
  f143 := Try.func28.trans (by kernel_rfl)
  f217 := Try.func46.trans (by kernel_rfl)
  f219 := Try.func40.trans (by kernel_rfl)
  f224 := Try.func48.trans (by kernel_rfl)
  f225 := Try.func47.trans (by kernel_rfl)
  f266 := Try.func61.trans (by kernel_rfl)
  f267 := Try.func49.trans (by kernel_rfl)
  f314 := Try.func62.trans (by kernel_rfl)
  t3 := Try.underlying3
  a3 := Try.isAgg3
  z3 := Try.sizeOf3
  v3 := Try.zeroValue3
  t4 := Try.underlying4
  a4 := Try.isAgg4
  z4 := Try.sizeOf4
  v4 := Try.zeroValue4
  t5 := Try.underlying5
  a5 := Try.isAgg5
  z5 := Try.sizeOf5
  v5 := Try.zeroValue5
  t9 := Try.underlying9
  a9 := Try.isAgg9
  z9 := Try.sizeOf9
  v9 := Try.zeroValue9
  t46 := Try.underlying59
  a46 := Try.isAgg59
  z46 := Try.sizeOf59
  v46 := Try.zeroValue59
  t51 := Try.underlying72
  a51 := Try.isAgg72
  z51 := Try.sizeOf72
  v51 := Try.zeroValue72
  t146 := Try.underlying75
  a146 := Try.isAgg75
  z146 := Try.sizeOf75
  v146 := Try.zeroValue75
  g1 := by kernel_rfl
  }
end Go.Proofs.Ytpnldoegchjmmaa.IdxLay
