/- strconv.Itoa at this dump: the shelf's contract laid. -/
import Derived.Test.YthcamcmjafhehaaDoorFmtLay
import Derived.Lib.AppendIntMem
import Derived.Test.YthcamcmjafhehaaDoorPFnExactKeepTracesx0
namespace Go.Proofs.YthcamcmjafhehaaDoor.PFnExactKeepTraces
open Go.RowKit Go.Sort Go.Proofs.YthcamcmjafhehaaDoorW.PrintWords Go.Proofs.YthcamcmjafhehaaDoorW.PrintLast Go.Proofs.YthcamcmjafhehaaDoorW.PrintMore
set_option linter.unusedVariables false
set_option linter.unusedSimpArgs false
abbrev Tab (w : World) : Prop := Lib.TabIs Tryd.prog w "internal/strconv.uint64pow10" .u64 Lib.pow10Tab
def numB (n : Int) : ByteArray := ⟨(Lib.itoa n).toArray⟩
def strconv_Itoa_50.f (n : Int) : Option ByteArray := if -9223372036854775808 ≤ n ∧ n ≤ 9223372036854775807 then some (numB n) else none
theorem strconv_Itoa_50.calls (a0 : Int) (r : ByteArray) (w : World) (ht : Tab w) (h : strconv_Itoa_50.f a0 = some r) :
    Calls Tryd.prog 50 #[.int .i64 a0] w fun e w' => e = .returned (.string r) ∧ Below w.heap.size w w' := by
  unfold strconv_Itoa_50.f at h
  split at h
  · rename_i hb
    obtain rfl := Option.some.inj h
    refine Calls.mono (Any.strconv_Itoa Go.Proofs.YthcamcmjafhehaaDoor.FmtLay.lays a0 hb.1 hb.2 w ht) ?_
    rintro e w' ⟨rfl, k, os, rfl⟩
    exact ⟨rfl, Lib.below_grow _ w (Nat.le_refl _) k os⟩
  · cases h
end Go.Proofs.YthcamcmjafhehaaDoor.PFnExactKeepTraces
