/-
  No cell of these rows narrows 'for every input' (looked for: loops, veiled, ifaces, maps, wideKeys, modest, calm, conditions, laid).
  DERIVED. THE GIVEN ROWS OF THIS SEAT. 6 by the template 'for every input the law returns true; each argument reads behind the call as it read before'; 0 by the template 'total and deterministic' (their statements: YtmneleafdhgalaaTotals.lean).
  GIVEN WITH THE SEED: the statements are not yours to turn. If you find one false, say at which input.
  Laid BY PROGRAM, IN A SANDBOX (cutbox-rows.mjs): the forced cells as the released guide's own fill.sh prints them over the translation efa8f39bf65847d1… (all of the seat's roots in one cut). By AI agents, Wed Nov 11 2026. No macro, syntax, notation, axiom, sorry.
-/
import Derived.Test.YtmneleafdhgalaaChecked
import GoSem.Claim
import GoSem.ClaimJoined
import GoSem.ClaimMapViews
import Derived.JoinedTies
import Derived.KernelRfl
namespace Go.Proofs.Ytmneleafdhgalaa
/- THE CELL 'sum', in the pinned program and in every row, IS THE sha256 OF THE DUMP (.gsa) THAT YtmneleafdhgalaaProg.lean LOADS. Nothing in Lean hashes anything: it is a label: what it is worth is what the hold of that sum in a sandbox is worth. -/
noncomputable def Try.pinned : Pinned := { name := "ytmneleafdhgalaa", sum := "efa8f39bf65847d1fd7268eda7aaa70ebf7ef0a76a55cf7b2d751720694b56ce", checked := Try.checked }
namespace Rows
def none {H : Type} : Left H := { results := [], args := [] }

/-- 'laws.FnExactBurnOf': WHATEVER THE INPUT: true; the input reads as it did. -/
def fnExactBurnOfSpec : ChangeSpec := { name := "fnExactBurnOf", fn := fun _ => fun
  | [d1, d2, d3] => { results := [.lit (.bool true)], args := [d1, d2, d3] }
  | _ => none }
def fnExactBurnOfRow : OpenClaim := { program := "ytmneleafdhgalaa", sum := "efa8f39bf65847d1fd7268eda7aaa70ebf7ef0a76a55cf7b2d751720694b56ce", func := "loop.example/g00039/laws.FnExactBurnOf", spec := "fnExactBurnOf", apart := false }
def FnExactBurnOfSaid : Prop := fnExactBurnOfRow.holds Try.pinned (OpenSpec.ofChange fnExactBurnOfSpec)

/-- ITS FALSE NEIGHBOUR: 'it returns false'. Refute it at one input. -/
def fnExactBurnOfWrong : ChangeSpec := { name := "fnExactBurnOf", fn := fun _ => fun
  | [d1, d2, d3] => { results := [.lit (.bool false)], args := [d1, d2, d3] }
  | _ => none }
def FnExactBurnOfWrongFalsely : Prop := fnExactBurnOfRow.holds Try.pinned (OpenSpec.ofChange fnExactBurnOfWrong)

/-- 'laws.FnExactSparkOf': WHATEVER THE INPUT: true; the input reads as it did. -/
def fnExactSparkOfSpec : ChangeSpec := { name := "fnExactSparkOf", fn := fun _ => fun
  | [d] => { results := [.lit (.bool true)], args := [d] }
  | _ => none }
def fnExactSparkOfRow : OpenClaim := { program := "ytmneleafdhgalaa", sum := "efa8f39bf65847d1fd7268eda7aaa70ebf7ef0a76a55cf7b2d751720694b56ce", func := "loop.example/g00039/laws.FnExactSparkOf", spec := "fnExactSparkOf", apart := false }
def FnExactSparkOfSaid : Prop := fnExactSparkOfRow.holds Try.pinned (OpenSpec.ofChange fnExactSparkOfSpec)

/-- ITS FALSE NEIGHBOUR: 'it returns false'. Refute it at one input. -/
def fnExactSparkOfWrong : ChangeSpec := { name := "fnExactSparkOf", fn := fun _ => fun
  | [d] => { results := [.lit (.bool false)], args := [d] }
  | _ => none }
def FnExactSparkOfWrongFalsely : Prop := fnExactSparkOfRow.holds Try.pinned (OpenSpec.ofChange fnExactSparkOfWrong)

/-- 'laws.FnExactRootOf': WHATEVER THE INPUT: true; the input reads as it did. -/
def fnExactRootOfSpec : ChangeSpec := { name := "fnExactRootOf", fn := fun _ => fun
  | [d] => { results := [.lit (.bool true)], args := [d] }
  | _ => none }
def fnExactRootOfRow : OpenClaim := { program := "ytmneleafdhgalaa", sum := "efa8f39bf65847d1fd7268eda7aaa70ebf7ef0a76a55cf7b2d751720694b56ce", func := "loop.example/g00039/laws.FnExactRootOf", spec := "fnExactRootOf", inPlace := ["math.sqrt"], apart := false }
def FnExactRootOfSaid : Prop := fnExactRootOfRow.holds Try.pinned (OpenSpec.ofChange fnExactRootOfSpec)

/-- ITS FALSE NEIGHBOUR: 'it returns false'. Refute it at one input. -/
def fnExactRootOfWrong : ChangeSpec := { name := "fnExactRootOf", fn := fun _ => fun
  | [d] => { results := [.lit (.bool false)], args := [d] }
  | _ => none }
def FnExactRootOfWrongFalsely : Prop := fnExactRootOfRow.holds Try.pinned (OpenSpec.ofChange fnExactRootOfWrong)

/-- 'laws.FnExactColourOf': WHATEVER THE INPUT: true; the input reads as it did. -/
def fnExactColourOfSpec : ChangeSpec := { name := "fnExactColourOf", fn := fun _ => fun
  | [d1, d2] => { results := [.lit (.bool true)], args := [d1, d2] }
  | _ => none }
def fnExactColourOfRow : OpenClaim := { program := "ytmneleafdhgalaa", sum := "efa8f39bf65847d1fd7268eda7aaa70ebf7ef0a76a55cf7b2d751720694b56ce", func := "loop.example/g00039/laws.FnExactColourOf", spec := "fnExactColourOf", apart := false }
def FnExactColourOfSaid : Prop := fnExactColourOfRow.holds Try.pinned (OpenSpec.ofChange fnExactColourOfSpec)

/-- ITS FALSE NEIGHBOUR: 'it returns false'. Refute it at one input. -/
def fnExactColourOfWrong : ChangeSpec := { name := "fnExactColourOf", fn := fun _ => fun
  | [d1, d2] => { results := [.lit (.bool false)], args := [d1, d2] }
  | _ => none }
def FnExactColourOfWrongFalsely : Prop := fnExactColourOfRow.holds Try.pinned (OpenSpec.ofChange fnExactColourOfWrong)

/-- 'laws.FnExactGoodPolicies': WHATEVER THE INPUT: true; the input reads as it did. -/
def fnExactGoodPoliciesSpec : ChangeSpec := { name := "fnExactGoodPolicies", fn := fun _ => fun
  | [d] => { results := [.lit (.bool true)], args := [d] }
  | _ => none }
def fnExactGoodPoliciesRow : OpenClaim := { program := "ytmneleafdhgalaa", sum := "efa8f39bf65847d1fd7268eda7aaa70ebf7ef0a76a55cf7b2d751720694b56ce", func := "loop.example/g00039/laws.FnExactGoodPolicies", spec := "fnExactGoodPolicies", unfollowed := true, recurses := true, apart := false }
def FnExactGoodPoliciesSaid : Prop := fnExactGoodPoliciesRow.holds Try.pinned (OpenSpec.ofChange fnExactGoodPoliciesSpec)

/-- ITS FALSE NEIGHBOUR: 'it returns false'. Refute it at one input. -/
def fnExactGoodPoliciesWrong : ChangeSpec := { name := "fnExactGoodPolicies", fn := fun _ => fun
  | [d] => { results := [.lit (.bool false)], args := [d] }
  | _ => none }
def FnExactGoodPoliciesWrongFalsely : Prop := fnExactGoodPoliciesRow.holds Try.pinned (OpenSpec.ofChange fnExactGoodPoliciesWrong)

/-- 'laws.FnExactGoodTrace': WHATEVER THE INPUT: true; the input reads as it did. -/
def fnExactGoodTraceSpec : ChangeSpec := { name := "fnExactGoodTrace", fn := fun _ => fun
  | [d] => { results := [.lit (.bool true)], args := [d] }
  | _ => none }
def fnExactGoodTraceRow : OpenClaim := { program := "ytmneleafdhgalaa", sum := "efa8f39bf65847d1fd7268eda7aaa70ebf7ef0a76a55cf7b2d751720694b56ce", func := "loop.example/g00039/laws.FnExactGoodTrace", spec := "fnExactGoodTrace", apart := false }
def FnExactGoodTraceSaid : Prop := fnExactGoodTraceRow.holds Try.pinned (OpenSpec.ofChange fnExactGoodTraceSpec)

/-- ITS FALSE NEIGHBOUR: 'it returns false'. Refute it at one input. -/
def fnExactGoodTraceWrong : ChangeSpec := { name := "fnExactGoodTrace", fn := fun _ => fun
  | [d] => { results := [.lit (.bool false)], args := [d] }
  | _ => none }
def FnExactGoodTraceWrongFalsely : Prop := fnExactGoodTraceRow.holds Try.pinned (OpenSpec.ofChange fnExactGoodTraceWrong)

/- THE SECOND FORM. 'bulk': how many values and letters a reading holds, each counted each time it is reached (what is shared counts as often as it is met; a slice's spare places count too). A statement '..UptoSaid' is the law's where the arguments, and the package variables that the reading takes, are together of bulk at most 1048576: NARROWER than '..Said'. Prove '..Said' where nothing that the law and all that it calls make is longer than what came in: it says more and counts as full. Else prove '..UptoSaid'. A law counts once. -/
mutual
def uptoBulk {H : Type} : DataW H → Nat
  | .lit (.string bytes) => bytes.length + 1
  | .lit _ => 1
  | .nil => 1
  | .ptr d => uptoBulk d + 1
  | .slice elems spare => uptoBulkAll elems + uptoBulkAll spare + 1
  | .agg parts => uptoBulkAll parts + 1
  | .iface _ d => uptoBulk d + 1
  | .map entries => uptoBulkEntries entries + 1
  | .held _ => 1
def uptoBulkAll {H : Type} : List (DataW H) → Nat
  | [] => 0
  | d :: r => uptoBulk d + uptoBulkAll r
def uptoBulkEntries {H : Type} : List (Lit × DataW H) → Nat
  | [] => 0
  | x :: r => uptoBulkEntry x + uptoBulkEntries r
def uptoBulkEntry {H : Type} : Lit × DataW H → Nat
  | (.string bytes, d) => bytes.length + uptoBulk d + 1
  | (_, d) => uptoBulk d + 1
 end
def uptoSmall : (H : Type) → List (DataW H) → Bool := fun _ ds => decide (uptoBulkAll ds ≤ 1048576)
def OpenSpec.upto (s : _root_.Go.ChangeSpec) : _root_.Go.OpenSpec := { _root_.Go.OpenSpec.ofChange s with cond := some uptoSmall }

/-- 'laws.FnExactBurnOf', WHERE WHAT IT READS IS OF BULK AT MOST 1048576: true; the input reads as it did. -/
def fnExactBurnOfUptoRow : OpenClaim := { program := "ytmneleafdhgalaa", sum := "efa8f39bf65847d1fd7268eda7aaa70ebf7ef0a76a55cf7b2d751720694b56ce", func := "loop.example/g00039/laws.FnExactBurnOf", spec := "fnExactBurnOf", apart := false, narrowed := true }
def FnExactBurnOfUptoSaid : Prop := fnExactBurnOfUptoRow.holds Try.pinned (OpenSpec.upto fnExactBurnOfSpec)

/-- 'laws.FnExactSparkOf', WHERE WHAT IT READS IS OF BULK AT MOST 1048576: true; the input reads as it did. -/
def fnExactSparkOfUptoRow : OpenClaim := { program := "ytmneleafdhgalaa", sum := "efa8f39bf65847d1fd7268eda7aaa70ebf7ef0a76a55cf7b2d751720694b56ce", func := "loop.example/g00039/laws.FnExactSparkOf", spec := "fnExactSparkOf", apart := false, narrowed := true }
def FnExactSparkOfUptoSaid : Prop := fnExactSparkOfUptoRow.holds Try.pinned (OpenSpec.upto fnExactSparkOfSpec)

/-- 'laws.FnExactRootOf', WHERE WHAT IT READS IS OF BULK AT MOST 1048576: true; the input reads as it did. -/
def fnExactRootOfUptoRow : OpenClaim := { program := "ytmneleafdhgalaa", sum := "efa8f39bf65847d1fd7268eda7aaa70ebf7ef0a76a55cf7b2d751720694b56ce", func := "loop.example/g00039/laws.FnExactRootOf", spec := "fnExactRootOf", inPlace := ["math.sqrt"], apart := false, narrowed := true }
def FnExactRootOfUptoSaid : Prop := fnExactRootOfUptoRow.holds Try.pinned (OpenSpec.upto fnExactRootOfSpec)

/-- 'laws.FnExactColourOf', WHERE WHAT IT READS IS OF BULK AT MOST 1048576: true; the input reads as it did. -/
def fnExactColourOfUptoRow : OpenClaim := { program := "ytmneleafdhgalaa", sum := "efa8f39bf65847d1fd7268eda7aaa70ebf7ef0a76a55cf7b2d751720694b56ce", func := "loop.example/g00039/laws.FnExactColourOf", spec := "fnExactColourOf", apart := false, narrowed := true }
def FnExactColourOfUptoSaid : Prop := fnExactColourOfUptoRow.holds Try.pinned (OpenSpec.upto fnExactColourOfSpec)

/-- 'laws.FnExactGoodPolicies', WHERE WHAT IT READS IS OF BULK AT MOST 1048576: true; the input reads as it did. -/
def fnExactGoodPoliciesUptoRow : OpenClaim := { program := "ytmneleafdhgalaa", sum := "efa8f39bf65847d1fd7268eda7aaa70ebf7ef0a76a55cf7b2d751720694b56ce", func := "loop.example/g00039/laws.FnExactGoodPolicies", spec := "fnExactGoodPolicies", unfollowed := true, recurses := true, apart := false, narrowed := true }
def FnExactGoodPoliciesUptoSaid : Prop := fnExactGoodPoliciesUptoRow.holds Try.pinned (OpenSpec.upto fnExactGoodPoliciesSpec)

/-- 'laws.FnExactGoodTrace', WHERE WHAT IT READS IS OF BULK AT MOST 1048576: true; the input reads as it did. -/
def fnExactGoodTraceUptoRow : OpenClaim := { program := "ytmneleafdhgalaa", sum := "efa8f39bf65847d1fd7268eda7aaa70ebf7ef0a76a55cf7b2d751720694b56ce", func := "loop.example/g00039/laws.FnExactGoodTrace", spec := "fnExactGoodTrace", apart := false, narrowed := true }
def FnExactGoodTraceUptoSaid : Prop := fnExactGoodTraceUptoRow.holds Try.pinned (OpenSpec.upto fnExactGoodTraceSpec)

end Rows
end Go.Proofs.Ytmneleafdhgalaa
