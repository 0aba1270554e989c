/-
  No cell of these rows narrows 'for every input' (looked for: loops, veiled, ifaces, maps, wideKeys, modest, calm, conditions, laid).
  DERIVED. THE GIVEN ROWS OF THIS SEAT. 3 by the template 'for every input the law returns true; each argument reads behind the call as it read before'; 0 by the template 'total and deterministic' (their statements: YtdgpoikgfaigbaaTotals.lean).
  GIVEN WITH THE SEED: the statements are not yours to turn. If you find one false, say at which input.
  Laid BY PROGRAM, IN A SANDBOX (cutbox-rows.mjs): the forced cells as the released guide's own fill.sh prints them over the translation e8a5bb17dbba76b8… (all of the seat's roots in one cut). By AI agents, Wed Nov 11 2026. No macro, syntax, notation, axiom, sorry.
-/
import Derived.Test.YtdgpoikgfaigbaaChecked
import GoSem.Claim
import GoSem.ClaimJoined
import GoSem.ClaimMapViews
import Derived.JoinedTies
import Derived.KernelRfl
namespace Go.Proofs.Ytdgpoikgfaigbaa
/- THE CELL 'sum', in the pinned program and in every row, IS THE sha256 OF THE DUMP (.gsa) THAT YtdgpoikgfaigbaaProg.lean LOADS. Nothing in Lean hashes anything: it is a label: what it is worth is what the hold of that sum in a sandbox is worth. -/
noncomputable def Try.pinned : Pinned := { name := "ytdgpoikgfaigbaa", sum := "e8a5bb17dbba76b80c0c438217cc2cdd5fde0046b978981c71130dc431007ae1", checked := Try.checked }
namespace Rows
def none {H : Type} : Left H := { results := [], args := [] }

/-- 'laws.FnExactClockAfter': WHATEVER THE INPUT: true; the input reads as it did. -/
def fnExactClockAfterSpec : ChangeSpec := { name := "fnExactClockAfter", fn := fun _ => fun
  | [d] => { results := [.lit (.bool true)], args := [d] }
  | _ => none }
def fnExactClockAfterRow : OpenClaim := { program := "ytdgpoikgfaigbaa", sum := "e8a5bb17dbba76b80c0c438217cc2cdd5fde0046b978981c71130dc431007ae1", func := "loop.example/g00076/laws.FnExactClockAfter", spec := "fnExactClockAfter", apart := false }
def FnExactClockAfterSaid : Prop := fnExactClockAfterRow.holds Try.pinned (OpenSpec.ofChange fnExactClockAfterSpec)

/-- ITS FALSE NEIGHBOUR: 'it returns false'. Refute it at one input. -/
def fnExactClockAfterWrong : ChangeSpec := { name := "fnExactClockAfter", fn := fun _ => fun
  | [d] => { results := [.lit (.bool false)], args := [d] }
  | _ => none }
def FnExactClockAfterWrongFalsely : Prop := fnExactClockAfterRow.holds Try.pinned (OpenSpec.ofChange fnExactClockAfterWrong)

/-- 'laws.FnExactSpanSum': WHATEVER THE INPUT: true; the input reads as it did. -/
def fnExactSpanSumSpec : ChangeSpec := { name := "fnExactSpanSum", fn := fun _ => fun
  | [d1, d2, d3] => { results := [.lit (.bool true)], args := [d1, d2, d3] }
  | _ => none }
def fnExactSpanSumRow : OpenClaim := { program := "ytdgpoikgfaigbaa", sum := "e8a5bb17dbba76b80c0c438217cc2cdd5fde0046b978981c71130dc431007ae1", func := "loop.example/g00076/laws.FnExactSpanSum", spec := "fnExactSpanSum", apart := false }
def FnExactSpanSumSaid : Prop := fnExactSpanSumRow.holds Try.pinned (OpenSpec.ofChange fnExactSpanSumSpec)

/-- ITS FALSE NEIGHBOUR: 'it returns false'. Refute it at one input. -/
def fnExactSpanSumWrong : ChangeSpec := { name := "fnExactSpanSum", fn := fun _ => fun
  | [d1, d2, d3] => { results := [.lit (.bool false)], args := [d1, d2, d3] }
  | _ => none }
def FnExactSpanSumWrongFalsely : Prop := fnExactSpanSumRow.holds Try.pinned (OpenSpec.ofChange fnExactSpanSumWrong)

/-- 'laws.FnExactFirstDiff': WHATEVER THE INPUT: true; the input reads as it did. -/
def fnExactFirstDiffSpec : ChangeSpec := { name := "fnExactFirstDiff", fn := fun _ => fun
  | [d1, d2] => { results := [.lit (.bool true)], args := [d1, d2] }
  | _ => none }
def fnExactFirstDiffRow : OpenClaim := { program := "ytdgpoikgfaigbaa", sum := "e8a5bb17dbba76b80c0c438217cc2cdd5fde0046b978981c71130dc431007ae1", func := "loop.example/g00076/laws.FnExactFirstDiff", spec := "fnExactFirstDiff", apart := false }
def FnExactFirstDiffSaid : Prop := fnExactFirstDiffRow.holds Try.pinned (OpenSpec.ofChange fnExactFirstDiffSpec)

/-- ITS FALSE NEIGHBOUR: 'it returns false'. Refute it at one input. -/
def fnExactFirstDiffWrong : ChangeSpec := { name := "fnExactFirstDiff", fn := fun _ => fun
  | [d1, d2] => { results := [.lit (.bool false)], args := [d1, d2] }
  | _ => none }
def FnExactFirstDiffWrongFalsely : Prop := fnExactFirstDiffRow.holds Try.pinned (OpenSpec.ofChange fnExactFirstDiffWrong)

/- THE SECOND FORM. 'bulk': how many values and letters a reading holds, each counted each time it is reached (what is shared counts as often as it is met; a slice's spare places count too). A statement '..UptoSaid' is the law's where the arguments, and the package variables that the reading takes, are together of bulk at most 1048576: NARROWER than '..Said'. Prove '..Said' where nothing that the law and all that it calls make is longer than what came in: it says more and counts as full. Else prove '..UptoSaid'. A law counts once. -/
mutual
def uptoBulk {H : Type} : DataW H → Nat
  | .lit (.string bytes) => bytes.length + 1
  | .lit _ => 1
  | .nil => 1
  | .ptr d => uptoBulk d + 1
  | .slice elems spare => uptoBulkAll elems + uptoBulkAll spare + 1
  | .agg parts => uptoBulkAll parts + 1
  | .iface _ d => uptoBulk d + 1
  | .map entries => uptoBulkEntries entries + 1
  | .held _ => 1
def uptoBulkAll {H : Type} : List (DataW H) → Nat
  | [] => 0
  | d :: r => uptoBulk d + uptoBulkAll r
def uptoBulkEntries {H : Type} : List (Lit × DataW H) → Nat
  | [] => 0
  | x :: r => uptoBulkEntry x + uptoBulkEntries r
def uptoBulkEntry {H : Type} : Lit × DataW H → Nat
  | (.string bytes, d) => bytes.length + uptoBulk d + 1
  | (_, d) => uptoBulk d + 1
 end
def uptoSmall : (H : Type) → List (DataW H) → Bool := fun _ ds => decide (uptoBulkAll ds ≤ 1048576)
def OpenSpec.upto (s : _root_.Go.ChangeSpec) : _root_.Go.OpenSpec := { _root_.Go.OpenSpec.ofChange s with cond := some uptoSmall }

/-- 'laws.FnExactClockAfter', WHERE WHAT IT READS IS OF BULK AT MOST 1048576: true; the input reads as it did. -/
def fnExactClockAfterUptoRow : OpenClaim := { program := "ytdgpoikgfaigbaa", sum := "e8a5bb17dbba76b80c0c438217cc2cdd5fde0046b978981c71130dc431007ae1", func := "loop.example/g00076/laws.FnExactClockAfter", spec := "fnExactClockAfter", apart := false, narrowed := true }
def FnExactClockAfterUptoSaid : Prop := fnExactClockAfterUptoRow.holds Try.pinned (OpenSpec.upto fnExactClockAfterSpec)

/-- 'laws.FnExactSpanSum', WHERE WHAT IT READS IS OF BULK AT MOST 1048576: true; the input reads as it did. -/
def fnExactSpanSumUptoRow : OpenClaim := { program := "ytdgpoikgfaigbaa", sum := "e8a5bb17dbba76b80c0c438217cc2cdd5fde0046b978981c71130dc431007ae1", func := "loop.example/g00076/laws.FnExactSpanSum", spec := "fnExactSpanSum", apart := false, narrowed := true }
def FnExactSpanSumUptoSaid : Prop := fnExactSpanSumUptoRow.holds Try.pinned (OpenSpec.upto fnExactSpanSumSpec)

/-- 'laws.FnExactFirstDiff', WHERE WHAT IT READS IS OF BULK AT MOST 1048576: true; the input reads as it did. -/
def fnExactFirstDiffUptoRow : OpenClaim := { program := "ytdgpoikgfaigbaa", sum := "e8a5bb17dbba76b80c0c438217cc2cdd5fde0046b978981c71130dc431007ae1", func := "loop.example/g00076/laws.FnExactFirstDiff", spec := "fnExactFirstDiff", apart := false, narrowed := true }
def FnExactFirstDiffUptoSaid : Prop := fnExactFirstDiffUptoRow.holds Try.pinned (OpenSpec.upto fnExactFirstDiffSpec)

end Rows
end Go.Proofs.Ytdgpoikgfaigbaa
