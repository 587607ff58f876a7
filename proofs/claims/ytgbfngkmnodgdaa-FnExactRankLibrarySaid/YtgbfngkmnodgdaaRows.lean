/-
  No cell of these rows narrows 'for every input' (looked for: loops, veiled, ifaces, maps, wideKeys, modest, calm, conditions, laid).
  DERIVED. THE GIVEN ROWS OF THIS SEAT. 7 by the template 'for every input the law returns true; each argument reads behind the call as it read before'; 0 by the template 'total and deterministic' (their statements: YtgbfngkmnodgdaaTotals.lean).
  GIVEN WITH THE SEED: the statements are not yours to turn. If you find one false, say at which input.
  Laid BY PROGRAM, IN A SANDBOX (cutbox-rows.mjs): the forced cells as the released guide's own fill.sh prints them over the translation 4deb75233f0e3c26… (all of the seat's roots in one cut). By AI agents, Wed Nov 11 2026. No macro, syntax, notation, axiom, sorry.
-/
import Derived.Test.YtgbfngkmnodgdaaChecked
import GoSem.Claim
import GoSem.ClaimJoined
import GoSem.ClaimMapViews
import Derived.JoinedTies
import Derived.KernelRfl
namespace Go.Proofs.Ytgbfngkmnodgdaa
/- THE CELL 'sum', in the pinned program and in every row, IS THE sha256 OF THE DUMP (.gsa) THAT YtgbfngkmnodgdaaProg.lean LOADS. Nothing in Lean hashes anything: it is a label: what it is worth is what the hold of that sum in a sandbox is worth. -/
noncomputable def Try.pinned : Pinned := { name := "ytgbfngkmnodgdaa", sum := "4deb75233f0e3c261cd1ef666dbbf88bebda505bc7b8117404f6e0f3c9cdfe56", checked := Try.checked }
namespace Rows
def none {H : Type} : Left H := { results := [], args := [] }

/-- 'laws.FnExactRankLibrary': WHATEVER THE INPUT: true; the input reads as it did. -/
def fnExactRankLibrarySpec : ChangeSpec := { name := "fnExactRankLibrary", fn := fun _ => fun
  | [d1, d2] => { results := [.lit (.bool true)], args := [d1, d2] }
  | _ => none }
def fnExactRankLibraryRow : OpenClaim := { program := "ytgbfngkmnodgdaa", sum := "4deb75233f0e3c261cd1ef666dbbf88bebda505bc7b8117404f6e0f3c9cdfe56", func := "loop.example/g01403/laws.FnExactRankLibrary", spec := "fnExactRankLibrary", inPlace := ["math.sqrt"], unfollowed := true, recurses := true, apart := false }
def FnExactRankLibrarySaid : Prop := fnExactRankLibraryRow.holds Try.pinned (OpenSpec.ofChange fnExactRankLibrarySpec)

/-- ITS FALSE NEIGHBOUR: 'it returns false'. Refute it at one input. -/
def fnExactRankLibraryWrong : ChangeSpec := { name := "fnExactRankLibrary", fn := fun _ => fun
  | [d1, d2] => { results := [.lit (.bool false)], args := [d1, d2] }
  | _ => none }
def FnExactRankLibraryWrongFalsely : Prop := fnExactRankLibraryRow.holds Try.pinned (OpenSpec.ofChange fnExactRankLibraryWrong)

/-- 'laws.FnExactUnmixShared': WHATEVER THE INPUT: true; the input reads as it did. -/
def fnExactUnmixSharedSpec : ChangeSpec := { name := "fnExactUnmixShared", fn := fun _ => fun
  | [d1, d2, d3, d4] => { results := [.lit (.bool true)], args := [d1, d2, d3, d4] }
  | _ => none }
def fnExactUnmixSharedRow : OpenClaim := { program := "ytgbfngkmnodgdaa", sum := "4deb75233f0e3c261cd1ef666dbbf88bebda505bc7b8117404f6e0f3c9cdfe56", func := "loop.example/g01403/laws.FnExactUnmixShared", spec := "fnExactUnmixShared", inPlace := ["math.sqrt"], unfollowed := true, recurses := true, apart := false }
def FnExactUnmixSharedSaid : Prop := fnExactUnmixSharedRow.holds Try.pinned (OpenSpec.ofChange fnExactUnmixSharedSpec)

/-- ITS FALSE NEIGHBOUR: 'it returns false'. Refute it at one input. -/
def fnExactUnmixSharedWrong : ChangeSpec := { name := "fnExactUnmixShared", fn := fun _ => fun
  | [d1, d2, d3, d4] => { results := [.lit (.bool false)], args := [d1, d2, d3, d4] }
  | _ => none }
def FnExactUnmixSharedWrongFalsely : Prop := fnExactUnmixSharedRow.holds Try.pinned (OpenSpec.ofChange fnExactUnmixSharedWrong)

/-- 'laws.FnUnmixSharedOfAll': WHATEVER THE INPUT: true; the input reads as it did. -/
def fnUnmixSharedOfAllSpec : ChangeSpec := { name := "fnUnmixSharedOfAll", fn := fun _ => fun
  | [d1, d2, d3, d4, d5] => { results := [.lit (.bool true)], args := [d1, d2, d3, d4, d5] }
  | _ => none }
def fnUnmixSharedOfAllRow : OpenClaim := { program := "ytgbfngkmnodgdaa", sum := "4deb75233f0e3c261cd1ef666dbbf88bebda505bc7b8117404f6e0f3c9cdfe56", func := "loop.example/g01403/laws.FnUnmixSharedOfAll", spec := "fnUnmixSharedOfAll", inPlace := ["math.sqrt"], unfollowed := true, recurses := true, apart := false }
def FnUnmixSharedOfAllSaid : Prop := fnUnmixSharedOfAllRow.holds Try.pinned (OpenSpec.ofChange fnUnmixSharedOfAllSpec)

/-- ITS FALSE NEIGHBOUR: 'it returns false'. Refute it at one input. -/
def fnUnmixSharedOfAllWrong : ChangeSpec := { name := "fnUnmixSharedOfAll", fn := fun _ => fun
  | [d1, d2, d3, d4, d5] => { results := [.lit (.bool false)], args := [d1, d2, d3, d4, d5] }
  | _ => none }
def FnUnmixSharedOfAllWrongFalsely : Prop := fnUnmixSharedOfAllRow.holds Try.pinned (OpenSpec.ofChange fnUnmixSharedOfAllWrong)

/-- 'laws.FnExactScanLines': WHATEVER THE INPUT: true; the input reads as it did. -/
def fnExactScanLinesSpec : ChangeSpec := { name := "fnExactScanLines", fn := fun _ => fun
  | [d] => { results := [.lit (.bool true)], args := [d] }
  | _ => none }
def fnExactScanLinesRow : OpenClaim := { program := "ytgbfngkmnodgdaa", sum := "4deb75233f0e3c261cd1ef666dbbf88bebda505bc7b8117404f6e0f3c9cdfe56", func := "loop.example/g01403/laws.FnExactScanLines", spec := "fnExactScanLines", inPlace := ["math.Float32frombits", "math.Float64frombits", "math.Float64bits", "math.archTrunc"], unfollowed := true, recurses := true, apart := false }
def FnExactScanLinesSaid : Prop := fnExactScanLinesRow.holds Try.pinned (OpenSpec.ofChange fnExactScanLinesSpec)

/-- ITS FALSE NEIGHBOUR: 'it returns false'. Refute it at one input. -/
def fnExactScanLinesWrong : ChangeSpec := { name := "fnExactScanLines", fn := fun _ => fun
  | [d] => { results := [.lit (.bool false)], args := [d] }
  | _ => none }
def FnExactScanLinesWrongFalsely : Prop := fnExactScanLinesRow.holds Try.pinned (OpenSpec.ofChange fnExactScanLinesWrong)

/-- 'laws.FnExactMendedLines': WHATEVER THE INPUT: true; the input reads as it did. -/
def fnExactMendedLinesSpec : ChangeSpec := { name := "fnExactMendedLines", fn := fun _ => fun
  | [d] => { results := [.lit (.bool true)], args := [d] }
  | _ => none }
def fnExactMendedLinesRow : OpenClaim := { program := "ytgbfngkmnodgdaa", sum := "4deb75233f0e3c261cd1ef666dbbf88bebda505bc7b8117404f6e0f3c9cdfe56", func := "loop.example/g01403/laws.FnExactMendedLines", spec := "fnExactMendedLines", inPlace := ["math.Float32frombits", "math.Float64frombits", "math.sqrt", "math.Float64bits", "math.archTrunc"], unfollowed := true, recurses := true, apart := false }
def FnExactMendedLinesSaid : Prop := fnExactMendedLinesRow.holds Try.pinned (OpenSpec.ofChange fnExactMendedLinesSpec)

/-- ITS FALSE NEIGHBOUR: 'it returns false'. Refute it at one input. -/
def fnExactMendedLinesWrong : ChangeSpec := { name := "fnExactMendedLines", fn := fun _ => fun
  | [d] => { results := [.lit (.bool false)], args := [d] }
  | _ => none }
def FnExactMendedLinesWrongFalsely : Prop := fnExactMendedLinesRow.holds Try.pinned (OpenSpec.ofChange fnExactMendedLinesWrong)

/-- 'laws.FnExactScansShared': WHATEVER THE INPUT: true; the input reads as it did. -/
def fnExactScansSharedSpec : ChangeSpec := { name := "fnExactScansShared", fn := fun _ => fun
  | [d1, d2] => { results := [.lit (.bool true)], args := [d1, d2] }
  | _ => none }
def fnExactScansSharedRow : OpenClaim := { program := "ytgbfngkmnodgdaa", sum := "4deb75233f0e3c261cd1ef666dbbf88bebda505bc7b8117404f6e0f3c9cdfe56", func := "loop.example/g01403/laws.FnExactScansShared", spec := "fnExactScansShared", inPlace := ["math.Float32frombits", "math.Float64frombits", "math.sqrt", "math.Float64bits", "math.archTrunc"], unfollowed := true, recurses := true, apart := false }
def FnExactScansSharedSaid : Prop := fnExactScansSharedRow.holds Try.pinned (OpenSpec.ofChange fnExactScansSharedSpec)

/-- ITS FALSE NEIGHBOUR: 'it returns false'. Refute it at one input. -/
def fnExactScansSharedWrong : ChangeSpec := { name := "fnExactScansShared", fn := fun _ => fun
  | [d1, d2] => { results := [.lit (.bool false)], args := [d1, d2] }
  | _ => none }
def FnExactScansSharedWrongFalsely : Prop := fnExactScansSharedRow.holds Try.pinned (OpenSpec.ofChange fnExactScansSharedWrong)

/-- 'laws.FnScansSharedOfAll': WHATEVER THE INPUT: true; the input reads as it did. -/
def fnScansSharedOfAllSpec : ChangeSpec := { name := "fnScansSharedOfAll", fn := fun _ => fun
  | [d1, d2, d3] => { results := [.lit (.bool true)], args := [d1, d2, d3] }
  | _ => none }
def fnScansSharedOfAllRow : OpenClaim := { program := "ytgbfngkmnodgdaa", sum := "4deb75233f0e3c261cd1ef666dbbf88bebda505bc7b8117404f6e0f3c9cdfe56", func := "loop.example/g01403/laws.FnScansSharedOfAll", spec := "fnScansSharedOfAll", inPlace := ["math.Float64frombits", "math.Float64bits", "math.archTrunc", "math.sqrt", "math.Float32frombits"], unfollowed := true, recurses := true, apart := false }
def FnScansSharedOfAllSaid : Prop := fnScansSharedOfAllRow.holds Try.pinned (OpenSpec.ofChange fnScansSharedOfAllSpec)

/-- ITS FALSE NEIGHBOUR: 'it returns false'. Refute it at one input. -/
def fnScansSharedOfAllWrong : ChangeSpec := { name := "fnScansSharedOfAll", fn := fun _ => fun
  | [d1, d2, d3] => { results := [.lit (.bool false)], args := [d1, d2, d3] }
  | _ => none }
def FnScansSharedOfAllWrongFalsely : Prop := fnScansSharedOfAllRow.holds Try.pinned (OpenSpec.ofChange fnScansSharedOfAllWrong)

/- THE SECOND FORM. 'bulk': how many values and letters a reading holds, each counted each time it is reached (what is shared counts as often as it is met; a slice's spare places count too). A statement '..UptoSaid' is the law's where the arguments, and the package variables that the reading takes, are together of bulk at most 1048576: NARROWER than '..Said'. Prove '..Said' where nothing that the law and all that it calls make is longer than what came in: it says more and counts as full. Else prove '..UptoSaid'. A law counts once. -/
mutual
def uptoBulk {H : Type} : DataW H → Nat
  | .lit (.string bytes) => bytes.length + 1
  | .lit _ => 1
  | .nil => 1
  | .ptr d => uptoBulk d + 1
  | .slice elems spare => uptoBulkAll elems + uptoBulkAll spare + 1
  | .agg parts => uptoBulkAll parts + 1
  | .iface _ d => uptoBulk d + 1
  | .map entries => uptoBulkEntries entries + 1
  | .held _ => 1
def uptoBulkAll {H : Type} : List (DataW H) → Nat
  | [] => 0
  | d :: r => uptoBulk d + uptoBulkAll r
def uptoBulkEntries {H : Type} : List (Lit × DataW H) → Nat
  | [] => 0
  | x :: r => uptoBulkEntry x + uptoBulkEntries r
def uptoBulkEntry {H : Type} : Lit × DataW H → Nat
  | (.string bytes, d) => bytes.length + uptoBulk d + 1
  | (_, d) => uptoBulk d + 1
 end
def uptoSmall : (H : Type) → List (DataW H) → Bool := fun _ ds => decide (uptoBulkAll ds ≤ 1048576)
def OpenSpec.upto (s : _root_.Go.ChangeSpec) : _root_.Go.OpenSpec := { _root_.Go.OpenSpec.ofChange s with cond := some uptoSmall }

/-- 'laws.FnExactRankLibrary', WHERE WHAT IT READS IS OF BULK AT MOST 1048576: true; the input reads as it did. -/
def fnExactRankLibraryUptoRow : OpenClaim := { program := "ytgbfngkmnodgdaa", sum := "4deb75233f0e3c261cd1ef666dbbf88bebda505bc7b8117404f6e0f3c9cdfe56", func := "loop.example/g01403/laws.FnExactRankLibrary", spec := "fnExactRankLibrary", inPlace := ["math.sqrt"], unfollowed := true, recurses := true, apart := false, narrowed := true }
def FnExactRankLibraryUptoSaid : Prop := fnExactRankLibraryUptoRow.holds Try.pinned (OpenSpec.upto fnExactRankLibrarySpec)

/-- 'laws.FnExactUnmixShared', WHERE WHAT IT READS IS OF BULK AT MOST 1048576: true; the input reads as it did. -/
def fnExactUnmixSharedUptoRow : OpenClaim := { program := "ytgbfngkmnodgdaa", sum := "4deb75233f0e3c261cd1ef666dbbf88bebda505bc7b8117404f6e0f3c9cdfe56", func := "loop.example/g01403/laws.FnExactUnmixShared", spec := "fnExactUnmixShared", inPlace := ["math.sqrt"], unfollowed := true, recurses := true, apart := false, narrowed := true }
def FnExactUnmixSharedUptoSaid : Prop := fnExactUnmixSharedUptoRow.holds Try.pinned (OpenSpec.upto fnExactUnmixSharedSpec)

/-- 'laws.FnUnmixSharedOfAll', WHERE WHAT IT READS IS OF BULK AT MOST 1048576: true; the input reads as it did. -/
def fnUnmixSharedOfAllUptoRow : OpenClaim := { program := "ytgbfngkmnodgdaa", sum := "4deb75233f0e3c261cd1ef666dbbf88bebda505bc7b8117404f6e0f3c9cdfe56", func := "loop.example/g01403/laws.FnUnmixSharedOfAll", spec := "fnUnmixSharedOfAll", inPlace := ["math.sqrt"], unfollowed := true, recurses := true, apart := false, narrowed := true }
def FnUnmixSharedOfAllUptoSaid : Prop := fnUnmixSharedOfAllUptoRow.holds Try.pinned (OpenSpec.upto fnUnmixSharedOfAllSpec)

/-- 'laws.FnExactScanLines', WHERE WHAT IT READS IS OF BULK AT MOST 1048576: true; the input reads as it did. -/
def fnExactScanLinesUptoRow : OpenClaim := { program := "ytgbfngkmnodgdaa", sum := "4deb75233f0e3c261cd1ef666dbbf88bebda505bc7b8117404f6e0f3c9cdfe56", func := "loop.example/g01403/laws.FnExactScanLines", spec := "fnExactScanLines", inPlace := ["math.Float32frombits", "math.Float64frombits", "math.Float64bits", "math.archTrunc"], unfollowed := true, recurses := true, apart := false, narrowed := true }
def FnExactScanLinesUptoSaid : Prop := fnExactScanLinesUptoRow.holds Try.pinned (OpenSpec.upto fnExactScanLinesSpec)

/-- 'laws.FnExactMendedLines', WHERE WHAT IT READS IS OF BULK AT MOST 1048576: true; the input reads as it did. -/
def fnExactMendedLinesUptoRow : OpenClaim := { program := "ytgbfngkmnodgdaa", sum := "4deb75233f0e3c261cd1ef666dbbf88bebda505bc7b8117404f6e0f3c9cdfe56", func := "loop.example/g01403/laws.FnExactMendedLines", spec := "fnExactMendedLines", inPlace := ["math.Float32frombits", "math.Float64frombits", "math.sqrt", "math.Float64bits", "math.archTrunc"], unfollowed := true, recurses := true, apart := false, narrowed := true }
def FnExactMendedLinesUptoSaid : Prop := fnExactMendedLinesUptoRow.holds Try.pinned (OpenSpec.upto fnExactMendedLinesSpec)

/-- 'laws.FnExactScansShared', WHERE WHAT IT READS IS OF BULK AT MOST 1048576: true; the input reads as it did. -/
def fnExactScansSharedUptoRow : OpenClaim := { program := "ytgbfngkmnodgdaa", sum := "4deb75233f0e3c261cd1ef666dbbf88bebda505bc7b8117404f6e0f3c9cdfe56", func := "loop.example/g01403/laws.FnExactScansShared", spec := "fnExactScansShared", inPlace := ["math.Float32frombits", "math.Float64frombits", "math.sqrt", "math.Float64bits", "math.archTrunc"], unfollowed := true, recurses := true, apart := false, narrowed := true }
def FnExactScansSharedUptoSaid : Prop := fnExactScansSharedUptoRow.holds Try.pinned (OpenSpec.upto fnExactScansSharedSpec)

/-- 'laws.FnScansSharedOfAll', WHERE WHAT IT READS IS OF BULK AT MOST 1048576: true; the input reads as it did. -/
def fnScansSharedOfAllUptoRow : OpenClaim := { program := "ytgbfngkmnodgdaa", sum := "4deb75233f0e3c261cd1ef666dbbf88bebda505bc7b8117404f6e0f3c9cdfe56", func := "loop.example/g01403/laws.FnScansSharedOfAll", spec := "fnScansSharedOfAll", inPlace := ["math.Float64frombits", "math.Float64bits", "math.archTrunc", "math.sqrt", "math.Float32frombits"], unfollowed := true, recurses := true, apart := false, narrowed := true }
def FnScansSharedOfAllUptoSaid : Prop := fnScansSharedOfAllUptoRow.holds Try.pinned (OpenSpec.upto fnScansSharedOfAllSpec)

end Rows
end Go.Proofs.Ytgbfngkmnodgdaa
