/-
  No cell of these rows narrows 'for every input' (looked for: loops, veiled, ifaces, maps, wideKeys, modest, calm, conditions, laid).
  DERIVED. THE GIVEN ROWS OF THIS SEAT. 10 by the template 'for every input the law returns true; each argument reads behind the call as it read before'; 0 by the template 'total and deterministic' (their statements: YtngdpbjgmajfmaaTotals.lean).
  GIVEN WITH THE SEED: the statements are not yours to turn. If you find one false, say at which input.
  Laid BY PROGRAM, IN A SANDBOX (cutbox-rows.mjs): the forced cells as the released guide's own fill.sh prints them over the translation fa47f52f6de62f8a… (all of the seat's roots in one cut). By AI agents, Wed Nov 11 2026. No macro, syntax, notation, axiom, sorry.
-/
import Derived.Test.YtngdpbjgmajfmaaChecked
import GoSem.Claim
import GoSem.ClaimJoined
import GoSem.ClaimMapViews
import Derived.JoinedTies
import Derived.KernelRfl
namespace Go.Proofs.Ytngdpbjgmajfmaa
/- THE CELL 'sum', in the pinned program and in every row, IS THE sha256 OF THE DUMP (.gsa) THAT YtngdpbjgmajfmaaProg.lean LOADS. Nothing in Lean hashes anything: it is a label: what it is worth is what the hold of that sum in a sandbox is worth. -/
noncomputable def Try.pinned : Pinned := { name := "ytngdpbjgmajfmaa", sum := "fa47f52f6de62f8ac3415f765ebd8ebfbce67b7368c49869a682a16a60c8ba16", checked := Try.checked }
namespace Rows
def none {H : Type} : Left H := { results := [], args := [] }

/-- 'laws.FnExactMeanSpectrum': WHATEVER THE INPUT: true; the input reads as it did. -/
def fnExactMeanSpectrumSpec : ChangeSpec := { name := "fnExactMeanSpectrum", fn := fun _ => fun
  | [d] => { results := [.lit (.bool true)], args := [d] }
  | _ => none }
def fnExactMeanSpectrumRow : OpenClaim := { program := "ytngdpbjgmajfmaa", sum := "fa47f52f6de62f8ac3415f765ebd8ebfbce67b7368c49869a682a16a60c8ba16", func := "loop.example/g01403/laws.FnExactMeanSpectrum", spec := "fnExactMeanSpectrum", unfollowed := true, recurses := true, apart := false }
def FnExactMeanSpectrumSaid : Prop := fnExactMeanSpectrumRow.holds Try.pinned (OpenSpec.ofChange fnExactMeanSpectrumSpec)

/-- ITS FALSE NEIGHBOUR: 'it returns false'. Refute it at one input. -/
def fnExactMeanSpectrumWrong : ChangeSpec := { name := "fnExactMeanSpectrum", fn := fun _ => fun
  | [d] => { results := [.lit (.bool false)], args := [d] }
  | _ => none }
def FnExactMeanSpectrumWrongFalsely : Prop := fnExactMeanSpectrumRow.holds Try.pinned (OpenSpec.ofChange fnExactMeanSpectrumWrong)

/-- 'laws.FnExactSameDesk': WHATEVER THE INPUT: true; the input reads as it did. -/
def fnExactSameDeskSpec : ChangeSpec := { name := "fnExactSameDesk", fn := fun _ => fun
  | [d1, d2] => { results := [.lit (.bool true)], args := [d1, d2] }
  | _ => none }
def fnExactSameDeskRow : OpenClaim := { program := "ytngdpbjgmajfmaa", sum := "fa47f52f6de62f8ac3415f765ebd8ebfbce67b7368c49869a682a16a60c8ba16", func := "loop.example/g01403/laws.FnExactSameDesk", spec := "fnExactSameDesk", inPlace := ["math.Float32bits", "math.Float64bits"], unfollowed := true, recurses := true, apart := false }
def FnExactSameDeskSaid : Prop := fnExactSameDeskRow.holds Try.pinned (OpenSpec.ofChange fnExactSameDeskSpec)

/-- ITS FALSE NEIGHBOUR: 'it returns false'. Refute it at one input. -/
def fnExactSameDeskWrong : ChangeSpec := { name := "fnExactSameDesk", fn := fun _ => fun
  | [d1, d2] => { results := [.lit (.bool false)], args := [d1, d2] }
  | _ => none }
def FnExactSameDeskWrongFalsely : Prop := fnExactSameDeskRow.holds Try.pinned (OpenSpec.ofChange fnExactSameDeskWrong)

/-- 'laws.FnExactMixOf': WHATEVER THE INPUT: true; the input reads as it did. -/
def fnExactMixOfSpec : ChangeSpec := { name := "fnExactMixOf", fn := fun _ => fun
  | [d1, d2] => { results := [.lit (.bool true)], args := [d1, d2] }
  | _ => none }
def fnExactMixOfRow : OpenClaim := { program := "ytngdpbjgmajfmaa", sum := "fa47f52f6de62f8ac3415f765ebd8ebfbce67b7368c49869a682a16a60c8ba16", func := "loop.example/g01403/laws.FnExactMixOf", spec := "fnExactMixOf", unfollowed := true, recurses := true, apart := false }
def FnExactMixOfSaid : Prop := fnExactMixOfRow.holds Try.pinned (OpenSpec.ofChange fnExactMixOfSpec)

/-- ITS FALSE NEIGHBOUR: 'it returns false'. Refute it at one input. -/
def fnExactMixOfWrong : ChangeSpec := { name := "fnExactMixOf", fn := fun _ => fun
  | [d1, d2] => { results := [.lit (.bool false)], args := [d1, d2] }
  | _ => none }
def FnExactMixOfWrongFalsely : Prop := fnExactMixOfRow.holds Try.pinned (OpenSpec.ofChange fnExactMixOfWrong)

/-- 'laws.FnExactValidDesk': WHATEVER THE INPUT: true; the input reads as it did. -/
def fnExactValidDeskSpec : ChangeSpec := { name := "fnExactValidDesk", fn := fun _ => fun
  | [d] => { results := [.lit (.bool true)], args := [d] }
  | _ => none }
def fnExactValidDeskRow : OpenClaim := { program := "ytngdpbjgmajfmaa", sum := "fa47f52f6de62f8ac3415f765ebd8ebfbce67b7368c49869a682a16a60c8ba16", func := "loop.example/g01403/laws.FnExactValidDesk", spec := "fnExactValidDesk", unfollowed := true, recurses := true, apart := false }
def FnExactValidDeskSaid : Prop := fnExactValidDeskRow.holds Try.pinned (OpenSpec.ofChange fnExactValidDeskSpec)

/-- ITS FALSE NEIGHBOUR: 'it returns false'. Refute it at one input. -/
def fnExactValidDeskWrong : ChangeSpec := { name := "fnExactValidDesk", fn := fun _ => fun
  | [d] => { results := [.lit (.bool false)], args := [d] }
  | _ => none }
def FnExactValidDeskWrongFalsely : Prop := fnExactValidDeskRow.holds Try.pinned (OpenSpec.ofChange fnExactValidDeskWrong)

/-- 'laws.FnExactAtSteps': WHATEVER THE INPUT: true; the input reads as it did. -/
def fnExactAtStepsSpec : ChangeSpec := { name := "fnExactAtSteps", fn := fun _ => fun
  | [d1, d2, d3, d4] => { results := [.lit (.bool true)], args := [d1, d2, d3, d4] }
  | _ => none }
def fnExactAtStepsRow : OpenClaim := { program := "ytngdpbjgmajfmaa", sum := "fa47f52f6de62f8ac3415f765ebd8ebfbce67b7368c49869a682a16a60c8ba16", func := "loop.example/g01403/laws.FnExactAtSteps", spec := "fnExactAtSteps", inPlace := ["math.archFloor", "math.Float64bits", "math.Float64frombits", "math.archTrunc"], unfollowed := true, recurses := true, apart := false }
def FnExactAtStepsSaid : Prop := fnExactAtStepsRow.holds Try.pinned (OpenSpec.ofChange fnExactAtStepsSpec)

/-- ITS FALSE NEIGHBOUR: 'it returns false'. Refute it at one input. -/
def fnExactAtStepsWrong : ChangeSpec := { name := "fnExactAtSteps", fn := fun _ => fun
  | [d1, d2, d3, d4] => { results := [.lit (.bool false)], args := [d1, d2, d3, d4] }
  | _ => none }
def FnExactAtStepsWrongFalsely : Prop := fnExactAtStepsRow.holds Try.pinned (OpenSpec.ofChange fnExactAtStepsWrong)

/-- 'laws.FnExactNormalOf': WHATEVER THE INPUT: true; the input reads as it did. -/
def fnExactNormalOfSpec : ChangeSpec := { name := "fnExactNormalOf", fn := fun _ => fun
  | [d] => { results := [.lit (.bool true)], args := [d] }
  | _ => none }
def fnExactNormalOfRow : OpenClaim := { program := "ytngdpbjgmajfmaa", sum := "fa47f52f6de62f8ac3415f765ebd8ebfbce67b7368c49869a682a16a60c8ba16", func := "loop.example/g01403/laws.FnExactNormalOf", spec := "fnExactNormalOf", inPlace := ["math.sqrt"], unfollowed := true, recurses := true, apart := false }
def FnExactNormalOfSaid : Prop := fnExactNormalOfRow.holds Try.pinned (OpenSpec.ofChange fnExactNormalOfSpec)

/-- ITS FALSE NEIGHBOUR: 'it returns false'. Refute it at one input. -/
def fnExactNormalOfWrong : ChangeSpec := { name := "fnExactNormalOf", fn := fun _ => fun
  | [d] => { results := [.lit (.bool false)], args := [d] }
  | _ => none }
def FnExactNormalOfWrongFalsely : Prop := fnExactNormalOfRow.holds Try.pinned (OpenSpec.ofChange fnExactNormalOfWrong)

/-- 'laws.FnExactLikeOf': WHATEVER THE INPUT: true; the input reads as it did. -/
def fnExactLikeOfSpec : ChangeSpec := { name := "fnExactLikeOf", fn := fun _ => fun
  | [d1, d2] => { results := [.lit (.bool true)], args := [d1, d2] }
  | _ => none }
def fnExactLikeOfRow : OpenClaim := { program := "ytngdpbjgmajfmaa", sum := "fa47f52f6de62f8ac3415f765ebd8ebfbce67b7368c49869a682a16a60c8ba16", func := "loop.example/g01403/laws.FnExactLikeOf", spec := "fnExactLikeOf", inPlace := ["math.sqrt"], unfollowed := true, recurses := true, apart := false }
def FnExactLikeOfSaid : Prop := fnExactLikeOfRow.holds Try.pinned (OpenSpec.ofChange fnExactLikeOfSpec)

/-- ITS FALSE NEIGHBOUR: 'it returns false'. Refute it at one input. -/
def fnExactLikeOfWrong : ChangeSpec := { name := "fnExactLikeOf", fn := fun _ => fun
  | [d1, d2] => { results := [.lit (.bool false)], args := [d1, d2] }
  | _ => none }
def FnExactLikeOfWrongFalsely : Prop := fnExactLikeOfRow.holds Try.pinned (OpenSpec.ofChange fnExactLikeOfWrong)

/-- 'laws.FnExactUnmixOnce': WHATEVER THE INPUT: true; the input reads as it did. -/
def fnExactUnmixOnceSpec : ChangeSpec := { name := "fnExactUnmixOnce", fn := fun _ => fun
  | [d1, d2, d3] => { results := [.lit (.bool true)], args := [d1, d2, d3] }
  | _ => none }
def fnExactUnmixOnceRow : OpenClaim := { program := "ytngdpbjgmajfmaa", sum := "fa47f52f6de62f8ac3415f765ebd8ebfbce67b7368c49869a682a16a60c8ba16", func := "loop.example/g01403/laws.FnExactUnmixOnce", spec := "fnExactUnmixOnce", unfollowed := true, recurses := true, apart := false }
def FnExactUnmixOnceSaid : Prop := fnExactUnmixOnceRow.holds Try.pinned (OpenSpec.ofChange fnExactUnmixOnceSpec)

/-- ITS FALSE NEIGHBOUR: 'it returns false'. Refute it at one input. -/
def fnExactUnmixOnceWrong : ChangeSpec := { name := "fnExactUnmixOnce", fn := fun _ => fun
  | [d1, d2, d3] => { results := [.lit (.bool false)], args := [d1, d2, d3] }
  | _ => none }
def FnExactUnmixOnceWrongFalsely : Prop := fnExactUnmixOnceRow.holds Try.pinned (OpenSpec.ofChange fnExactUnmixOnceWrong)

/-- 'laws.FnExactOddSpectrum': WHATEVER THE INPUT: true; the input reads as it did. -/
def fnExactOddSpectrumSpec : ChangeSpec := { name := "fnExactOddSpectrum", fn := fun _ => fun
  | [d] => { results := [.lit (.bool true)], args := [d] }
  | _ => none }
def fnExactOddSpectrumRow : OpenClaim := { program := "ytngdpbjgmajfmaa", sum := "fa47f52f6de62f8ac3415f765ebd8ebfbce67b7368c49869a682a16a60c8ba16", func := "loop.example/g01403/laws.FnExactOddSpectrum", spec := "fnExactOddSpectrum", inPlace := ["math.sqrt"], unfollowed := true, recurses := true, apart := false }
def FnExactOddSpectrumSaid : Prop := fnExactOddSpectrumRow.holds Try.pinned (OpenSpec.ofChange fnExactOddSpectrumSpec)

/-- ITS FALSE NEIGHBOUR: 'it returns false'. Refute it at one input. -/
def fnExactOddSpectrumWrong : ChangeSpec := { name := "fnExactOddSpectrum", fn := fun _ => fun
  | [d] => { results := [.lit (.bool false)], args := [d] }
  | _ => none }
def FnExactOddSpectrumWrongFalsely : Prop := fnExactOddSpectrumRow.holds Try.pinned (OpenSpec.ofChange fnExactOddSpectrumWrong)

/-- 'laws.FnExactUnmix': WHATEVER THE INPUT: true; the input reads as it did. -/
def fnExactUnmixSpec : ChangeSpec := { name := "fnExactUnmix", fn := fun _ => fun
  | [d1, d2, d3] => { results := [.lit (.bool true)], args := [d1, d2, d3] }
  | _ => none }
def fnExactUnmixRow : OpenClaim := { program := "ytngdpbjgmajfmaa", sum := "fa47f52f6de62f8ac3415f765ebd8ebfbce67b7368c49869a682a16a60c8ba16", func := "loop.example/g01403/laws.FnExactUnmix", spec := "fnExactUnmix", inPlace := ["math.sqrt"], unfollowed := true, recurses := true, apart := false }
def FnExactUnmixSaid : Prop := fnExactUnmixRow.holds Try.pinned (OpenSpec.ofChange fnExactUnmixSpec)

/-- ITS FALSE NEIGHBOUR: 'it returns false'. Refute it at one input. -/
def fnExactUnmixWrong : ChangeSpec := { name := "fnExactUnmix", fn := fun _ => fun
  | [d1, d2, d3] => { results := [.lit (.bool false)], args := [d1, d2, d3] }
  | _ => none }
def FnExactUnmixWrongFalsely : Prop := fnExactUnmixRow.holds Try.pinned (OpenSpec.ofChange fnExactUnmixWrong)

/- THE SECOND FORM. 'bulk': how many values and letters a reading holds, each counted each time it is reached (what is shared counts as often as it is met; a slice's spare places count too). A statement '..UptoSaid' is the law's where the arguments, and the package variables that the reading takes, are together of bulk at most 1048576: NARROWER than '..Said'. Prove '..Said' where nothing that the law and all that it calls make is longer than what came in: it says more and counts as full. Else prove '..UptoSaid'. A law counts once. -/
mutual
def uptoBulk {H : Type} : DataW H → Nat
  | .lit (.string bytes) => bytes.length + 1
  | .lit _ => 1
  | .nil => 1
  | .ptr d => uptoBulk d + 1
  | .slice elems spare => uptoBulkAll elems + uptoBulkAll spare + 1
  | .agg parts => uptoBulkAll parts + 1
  | .iface _ d => uptoBulk d + 1
  | .map entries => uptoBulkEntries entries + 1
  | .held _ => 1
def uptoBulkAll {H : Type} : List (DataW H) → Nat
  | [] => 0
  | d :: r => uptoBulk d + uptoBulkAll r
def uptoBulkEntries {H : Type} : List (Lit × DataW H) → Nat
  | [] => 0
  | x :: r => uptoBulkEntry x + uptoBulkEntries r
def uptoBulkEntry {H : Type} : Lit × DataW H → Nat
  | (.string bytes, d) => bytes.length + uptoBulk d + 1
  | (_, d) => uptoBulk d + 1
 end
def uptoSmall : (H : Type) → List (DataW H) → Bool := fun _ ds => decide (uptoBulkAll ds ≤ 1048576)
def OpenSpec.upto (s : _root_.Go.ChangeSpec) : _root_.Go.OpenSpec := { _root_.Go.OpenSpec.ofChange s with cond := some uptoSmall }

/-- 'laws.FnExactMeanSpectrum', WHERE WHAT IT READS IS OF BULK AT MOST 1048576: true; the input reads as it did. -/
def fnExactMeanSpectrumUptoRow : OpenClaim := { program := "ytngdpbjgmajfmaa", sum := "fa47f52f6de62f8ac3415f765ebd8ebfbce67b7368c49869a682a16a60c8ba16", func := "loop.example/g01403/laws.FnExactMeanSpectrum", spec := "fnExactMeanSpectrum", unfollowed := true, recurses := true, apart := false, narrowed := true }
def FnExactMeanSpectrumUptoSaid : Prop := fnExactMeanSpectrumUptoRow.holds Try.pinned (OpenSpec.upto fnExactMeanSpectrumSpec)

/-- 'laws.FnExactSameDesk', WHERE WHAT IT READS IS OF BULK AT MOST 1048576: true; the input reads as it did. -/
def fnExactSameDeskUptoRow : OpenClaim := { program := "ytngdpbjgmajfmaa", sum := "fa47f52f6de62f8ac3415f765ebd8ebfbce67b7368c49869a682a16a60c8ba16", func := "loop.example/g01403/laws.FnExactSameDesk", spec := "fnExactSameDesk", inPlace := ["math.Float32bits", "math.Float64bits"], unfollowed := true, recurses := true, apart := false, narrowed := true }
def FnExactSameDeskUptoSaid : Prop := fnExactSameDeskUptoRow.holds Try.pinned (OpenSpec.upto fnExactSameDeskSpec)

/-- 'laws.FnExactMixOf', WHERE WHAT IT READS IS OF BULK AT MOST 1048576: true; the input reads as it did. -/
def fnExactMixOfUptoRow : OpenClaim := { program := "ytngdpbjgmajfmaa", sum := "fa47f52f6de62f8ac3415f765ebd8ebfbce67b7368c49869a682a16a60c8ba16", func := "loop.example/g01403/laws.FnExactMixOf", spec := "fnExactMixOf", unfollowed := true, recurses := true, apart := false, narrowed := true }
def FnExactMixOfUptoSaid : Prop := fnExactMixOfUptoRow.holds Try.pinned (OpenSpec.upto fnExactMixOfSpec)

/-- 'laws.FnExactValidDesk', WHERE WHAT IT READS IS OF BULK AT MOST 1048576: true; the input reads as it did. -/
def fnExactValidDeskUptoRow : OpenClaim := { program := "ytngdpbjgmajfmaa", sum := "fa47f52f6de62f8ac3415f765ebd8ebfbce67b7368c49869a682a16a60c8ba16", func := "loop.example/g01403/laws.FnExactValidDesk", spec := "fnExactValidDesk", unfollowed := true, recurses := true, apart := false, narrowed := true }
def FnExactValidDeskUptoSaid : Prop := fnExactValidDeskUptoRow.holds Try.pinned (OpenSpec.upto fnExactValidDeskSpec)

/-- 'laws.FnExactAtSteps', WHERE WHAT IT READS IS OF BULK AT MOST 1048576: true; the input reads as it did. -/
def fnExactAtStepsUptoRow : OpenClaim := { program := "ytngdpbjgmajfmaa", sum := "fa47f52f6de62f8ac3415f765ebd8ebfbce67b7368c49869a682a16a60c8ba16", func := "loop.example/g01403/laws.FnExactAtSteps", spec := "fnExactAtSteps", inPlace := ["math.archFloor", "math.Float64bits", "math.Float64frombits", "math.archTrunc"], unfollowed := true, recurses := true, apart := false, narrowed := true }
def FnExactAtStepsUptoSaid : Prop := fnExactAtStepsUptoRow.holds Try.pinned (OpenSpec.upto fnExactAtStepsSpec)

/-- 'laws.FnExactNormalOf', WHERE WHAT IT READS IS OF BULK AT MOST 1048576: true; the input reads as it did. -/
def fnExactNormalOfUptoRow : OpenClaim := { program := "ytngdpbjgmajfmaa", sum := "fa47f52f6de62f8ac3415f765ebd8ebfbce67b7368c49869a682a16a60c8ba16", func := "loop.example/g01403/laws.FnExactNormalOf", spec := "fnExactNormalOf", inPlace := ["math.sqrt"], unfollowed := true, recurses := true, apart := false, narrowed := true }
def FnExactNormalOfUptoSaid : Prop := fnExactNormalOfUptoRow.holds Try.pinned (OpenSpec.upto fnExactNormalOfSpec)

/-- 'laws.FnExactLikeOf', WHERE WHAT IT READS IS OF BULK AT MOST 1048576: true; the input reads as it did. -/
def fnExactLikeOfUptoRow : OpenClaim := { program := "ytngdpbjgmajfmaa", sum := "fa47f52f6de62f8ac3415f765ebd8ebfbce67b7368c49869a682a16a60c8ba16", func := "loop.example/g01403/laws.FnExactLikeOf", spec := "fnExactLikeOf", inPlace := ["math.sqrt"], unfollowed := true, recurses := true, apart := false, narrowed := true }
def FnExactLikeOfUptoSaid : Prop := fnExactLikeOfUptoRow.holds Try.pinned (OpenSpec.upto fnExactLikeOfSpec)

/-- 'laws.FnExactUnmixOnce', WHERE WHAT IT READS IS OF BULK AT MOST 1048576: true; the input reads as it did. -/
def fnExactUnmixOnceUptoRow : OpenClaim := { program := "ytngdpbjgmajfmaa", sum := "fa47f52f6de62f8ac3415f765ebd8ebfbce67b7368c49869a682a16a60c8ba16", func := "loop.example/g01403/laws.FnExactUnmixOnce", spec := "fnExactUnmixOnce", unfollowed := true, recurses := true, apart := false, narrowed := true }
def FnExactUnmixOnceUptoSaid : Prop := fnExactUnmixOnceUptoRow.holds Try.pinned (OpenSpec.upto fnExactUnmixOnceSpec)

/-- 'laws.FnExactOddSpectrum', WHERE WHAT IT READS IS OF BULK AT MOST 1048576: true; the input reads as it did. -/
def fnExactOddSpectrumUptoRow : OpenClaim := { program := "ytngdpbjgmajfmaa", sum := "fa47f52f6de62f8ac3415f765ebd8ebfbce67b7368c49869a682a16a60c8ba16", func := "loop.example/g01403/laws.FnExactOddSpectrum", spec := "fnExactOddSpectrum", inPlace := ["math.sqrt"], unfollowed := true, recurses := true, apart := false, narrowed := true }
def FnExactOddSpectrumUptoSaid : Prop := fnExactOddSpectrumUptoRow.holds Try.pinned (OpenSpec.upto fnExactOddSpectrumSpec)

/-- 'laws.FnExactUnmix', WHERE WHAT IT READS IS OF BULK AT MOST 1048576: true; the input reads as it did. -/
def fnExactUnmixUptoRow : OpenClaim := { program := "ytngdpbjgmajfmaa", sum := "fa47f52f6de62f8ac3415f765ebd8ebfbce67b7368c49869a682a16a60c8ba16", func := "loop.example/g01403/laws.FnExactUnmix", spec := "fnExactUnmix", inPlace := ["math.sqrt"], unfollowed := true, recurses := true, apart := false, narrowed := true }
def FnExactUnmixUptoSaid : Prop := fnExactUnmixUptoRow.holds Try.pinned (OpenSpec.upto fnExactUnmixSpec)

end Rows
end Go.Proofs.Ytngdpbjgmajfmaa
