/-
  No cell of these rows narrows 'for every input' (looked for: loops, veiled, ifaces, maps, wideKeys, modest, calm, conditions, laid).
  DERIVED. THE GIVEN ROWS OF THIS SEAT. 3 by the template 'for every input the law returns true; each argument reads behind the call as it read before'; 0 by the template 'total and deterministic' (their statements: YtjkibcdmpjppbaaTotals.lean).
  GIVEN WITH THE SEED: the statements are not yours to turn. If you find one false, say at which input.
  Laid BY PROGRAM, IN A SANDBOX (cutbox-rows.mjs): the forced cells as the released guide's own fill.sh prints them over the translation 3309dfbe78dc362e… (all of the seat's roots in one cut). By AI agents, Wed Nov 11 2026. No macro, syntax, notation, axiom, sorry.
-/
import Derived.Test.YtjkibcdmpjppbaaChecked
import GoSem.Claim
import GoSem.ClaimJoined
import GoSem.ClaimMapViews
import Derived.JoinedTies
import Derived.KernelRfl
namespace Go.Proofs.Ytjkibcdmpjppbaa
/- THE CELL 'sum', in the pinned program and in every row, IS THE sha256 OF THE DUMP (.gsa) THAT YtjkibcdmpjppbaaProg.lean LOADS. Nothing in Lean hashes anything: it is a label: what it is worth is what the hold of that sum in a sandbox is worth. -/
noncomputable def Try.pinned : Pinned := { name := "ytjkibcdmpjppbaa", sum := "3309dfbe78dc362ec4eda113a57412fd0ebd5d53564142c2d1f2945d9169fb2e", checked := Try.checked }
namespace Rows
def none {H : Type} : Left H := { results := [], args := [] }

/-- 'laws.FnExactScanLines': WHATEVER THE INPUT: true; the input reads as it did. -/
def fnExactScanLinesSpec : ChangeSpec := { name := "fnExactScanLines", fn := fun _ => fun
  | [d] => { results := [.lit (.bool true)], args := [d] }
  | _ => none }
def fnExactScanLinesRow : OpenClaim := { program := "ytjkibcdmpjppbaa", sum := "3309dfbe78dc362ec4eda113a57412fd0ebd5d53564142c2d1f2945d9169fb2e", func := "loop.example/g01403/laws.FnExactScanLines", spec := "fnExactScanLines", inPlace := ["math.Float32frombits", "math.Float64frombits", "math.Float64bits", "math.archTrunc"], unfollowed := true, recurses := true, apart := false }
def FnExactScanLinesSaid : Prop := fnExactScanLinesRow.holds Try.pinned (OpenSpec.ofChange fnExactScanLinesSpec)

/-- ITS FALSE NEIGHBOUR: 'it returns false'. Refute it at one input. -/
def fnExactScanLinesWrong : ChangeSpec := { name := "fnExactScanLines", fn := fun _ => fun
  | [d] => { results := [.lit (.bool false)], args := [d] }
  | _ => none }
def FnExactScanLinesWrongFalsely : Prop := fnExactScanLinesRow.holds Try.pinned (OpenSpec.ofChange fnExactScanLinesWrong)

/-- 'laws.FnPhased': WHATEVER THE INPUT: true; the input reads as it did. -/
def fnPhasedSpec : ChangeSpec := { name := "fnPhased", fn := fun _ => fun
  | [d1, d2] => { results := [.lit (.bool true)], args := [d1, d2] }
  | _ => none }
def fnPhasedRow : OpenClaim := { program := "ytjkibcdmpjppbaa", sum := "3309dfbe78dc362ec4eda113a57412fd0ebd5d53564142c2d1f2945d9169fb2e", func := "loop.example/g01403/laws.FnPhased", spec := "fnPhased", inPlace := ["math.Float64frombits", "math.Float64bits", "math.archTrunc", "math.sqrt"], unfollowed := true, recurses := true, apart := false }
def FnPhasedSaid : Prop := fnPhasedRow.holds Try.pinned (OpenSpec.ofChange fnPhasedSpec)

/-- ITS FALSE NEIGHBOUR: 'it returns false'. Refute it at one input. -/
def fnPhasedWrong : ChangeSpec := { name := "fnPhased", fn := fun _ => fun
  | [d1, d2] => { results := [.lit (.bool false)], args := [d1, d2] }
  | _ => none }
def FnPhasedWrongFalsely : Prop := fnPhasedRow.holds Try.pinned (OpenSpec.ofChange fnPhasedWrong)

/-- 'laws.FnMarks': WHATEVER THE INPUT: true; the input reads as it did. -/
def fnMarksSpec : ChangeSpec := { name := "fnMarks", fn := fun _ => fun
  | [d1, d2] => { results := [.lit (.bool true)], args := [d1, d2] }
  | _ => none }
def fnMarksRow : OpenClaim := { program := "ytjkibcdmpjppbaa", sum := "3309dfbe78dc362ec4eda113a57412fd0ebd5d53564142c2d1f2945d9169fb2e", func := "loop.example/g01403/laws.FnMarks", spec := "fnMarks", inPlace := ["math.sqrt"], unfollowed := true, recurses := true, apart := false }
def FnMarksSaid : Prop := fnMarksRow.holds Try.pinned (OpenSpec.ofChange fnMarksSpec)

/-- ITS FALSE NEIGHBOUR: 'it returns false'. Refute it at one input. -/
def fnMarksWrong : ChangeSpec := { name := "fnMarks", fn := fun _ => fun
  | [d1, d2] => { results := [.lit (.bool false)], args := [d1, d2] }
  | _ => none }
def FnMarksWrongFalsely : Prop := fnMarksRow.holds Try.pinned (OpenSpec.ofChange fnMarksWrong)

/- THE SECOND FORM. 'bulk': how many values and letters a reading holds, each counted each time it is reached (what is shared counts as often as it is met; a slice's spare places count too). A statement '..UptoSaid' is the law's where the arguments, and the package variables that the reading takes, are together of bulk at most 1048576: NARROWER than '..Said'. Prove '..Said' where nothing that the law and all that it calls make is longer than what came in: it says more and counts as full. Else prove '..UptoSaid'. A law counts once. -/
mutual
def uptoBulk {H : Type} : DataW H → Nat
  | .lit (.string bytes) => bytes.length + 1
  | .lit _ => 1
  | .nil => 1
  | .ptr d => uptoBulk d + 1
  | .slice elems spare => uptoBulkAll elems + uptoBulkAll spare + 1
  | .agg parts => uptoBulkAll parts + 1
  | .iface _ d => uptoBulk d + 1
  | .map entries => uptoBulkEntries entries + 1
  | .held _ => 1
def uptoBulkAll {H : Type} : List (DataW H) → Nat
  | [] => 0
  | d :: r => uptoBulk d + uptoBulkAll r
def uptoBulkEntries {H : Type} : List (Lit × DataW H) → Nat
  | [] => 0
  | x :: r => uptoBulkEntry x + uptoBulkEntries r
def uptoBulkEntry {H : Type} : Lit × DataW H → Nat
  | (.string bytes, d) => bytes.length + uptoBulk d + 1
  | (_, d) => uptoBulk d + 1
 end
def uptoSmall : (H : Type) → List (DataW H) → Bool := fun _ ds => decide (uptoBulkAll ds ≤ 1048576)
def OpenSpec.upto (s : _root_.Go.ChangeSpec) : _root_.Go.OpenSpec := { _root_.Go.OpenSpec.ofChange s with cond := some uptoSmall }

/-- 'laws.FnExactScanLines', WHERE WHAT IT READS IS OF BULK AT MOST 1048576: true; the input reads as it did. -/
def fnExactScanLinesUptoRow : OpenClaim := { program := "ytjkibcdmpjppbaa", sum := "3309dfbe78dc362ec4eda113a57412fd0ebd5d53564142c2d1f2945d9169fb2e", func := "loop.example/g01403/laws.FnExactScanLines", spec := "fnExactScanLines", inPlace := ["math.Float32frombits", "math.Float64frombits", "math.Float64bits", "math.archTrunc"], unfollowed := true, recurses := true, apart := false, narrowed := true }
def FnExactScanLinesUptoSaid : Prop := fnExactScanLinesUptoRow.holds Try.pinned (OpenSpec.upto fnExactScanLinesSpec)

/-- 'laws.FnPhased', WHERE WHAT IT READS IS OF BULK AT MOST 1048576: true; the input reads as it did. -/
def fnPhasedUptoRow : OpenClaim := { program := "ytjkibcdmpjppbaa", sum := "3309dfbe78dc362ec4eda113a57412fd0ebd5d53564142c2d1f2945d9169fb2e", func := "loop.example/g01403/laws.FnPhased", spec := "fnPhased", inPlace := ["math.Float64frombits", "math.Float64bits", "math.archTrunc", "math.sqrt"], unfollowed := true, recurses := true, apart := false, narrowed := true }
def FnPhasedUptoSaid : Prop := fnPhasedUptoRow.holds Try.pinned (OpenSpec.upto fnPhasedSpec)

/-- 'laws.FnMarks', WHERE WHAT IT READS IS OF BULK AT MOST 1048576: true; the input reads as it did. -/
def fnMarksUptoRow : OpenClaim := { program := "ytjkibcdmpjppbaa", sum := "3309dfbe78dc362ec4eda113a57412fd0ebd5d53564142c2d1f2945d9169fb2e", func := "loop.example/g01403/laws.FnMarks", spec := "fnMarks", inPlace := ["math.sqrt"], unfollowed := true, recurses := true, apart := false, narrowed := true }
def FnMarksUptoSaid : Prop := fnMarksUptoRow.holds Try.pinned (OpenSpec.upto fnMarksSpec)

end Rows
end Go.Proofs.Ytjkibcdmpjppbaa
