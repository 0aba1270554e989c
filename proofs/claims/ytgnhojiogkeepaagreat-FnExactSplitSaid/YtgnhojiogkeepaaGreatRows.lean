/-
  No cell of these rows narrows 'for every input' (looked for: loops, veiled, ifaces, maps, wideKeys, modest, calm, conditions, laid).
  DERIVED. THE GIVEN ROWS OF THIS SEAT. 3 by the template 'for every input the law returns true; each argument reads behind the call as it read before'; 0 by the template 'total and deterministic' (their statements: YtgnhojiogkeepaaGreatTotals.lean).
  GIVEN WITH THE SEED: the statements are not yours to turn. If you find one false, say at which input.
  Laid BY PROGRAM, IN A SANDBOX (cutbox-rows.mjs): the forced cells as the released guide's own fill.sh prints them over the translation 6000b83f8ddcf38d… (all of the seat's roots in one cut). By AI agents, Wed Nov 11 2026. No macro, syntax, notation, axiom, sorry.
-/
import Derived.Test.YtgnhojiogkeepaaGreatChecked
import GoSem.Claim
import GoSem.ClaimJoined
import GoSem.ClaimMapViews
import Derived.JoinedTies
import Derived.KernelRfl
namespace Go.Proofs.YtgnhojiogkeepaaGreat
/- THE CELL 'sum', in the pinned program and in every row, IS THE sha256 OF THE DUMP (.gsa) THAT YtgnhojiogkeepaaGreatProg.lean LOADS. Nothing in Lean hashes anything: it is a label: what it is worth is what the hold of that sum in a sandbox is worth. -/
noncomputable def Tryz.pinned : Pinned := { name := "ytgnhojiogkeepaagreat", sum := "6000b83f8ddcf38dd5d1a6e424a293535d19a226872c7de6b8b82a2c0ecf411a", checked := Tryz.checked }
namespace Rows
def none {H : Type} : Left H := { results := [], args := [] }

/-- 'laws.FnExactMerge': WHATEVER THE INPUT: true; the input reads as it did. -/
def fnExactMergeSpec : ChangeSpec := { name := "fnExactMerge", fn := fun _ => fun
  | [d1, d2] => { results := [.lit (.bool true)], args := [d1, d2] }
  | _ => none }
def fnExactMergeRow : OpenClaim := { program := "ytgnhojiogkeepaagreat", sum := "6000b83f8ddcf38dd5d1a6e424a293535d19a226872c7de6b8b82a2c0ecf411a", func := "loop.example/g00076/laws.FnExactMerge", spec := "fnExactMerge", inPlace := ["slices.overlaps[loop.example/g00076/impl.Slot]"], unfollowed := true, recurses := true, apart := false }
def FnExactMergeSaid : Prop := fnExactMergeRow.holds Tryz.pinned (OpenSpec.ofChange fnExactMergeSpec)

/-- ITS FALSE NEIGHBOUR: 'it returns false'. Refute it at one input. -/
def fnExactMergeWrong : ChangeSpec := { name := "fnExactMerge", fn := fun _ => fun
  | [d1, d2] => { results := [.lit (.bool false)], args := [d1, d2] }
  | _ => none }
def FnExactMergeWrongFalsely : Prop := fnExactMergeRow.holds Tryz.pinned (OpenSpec.ofChange fnExactMergeWrong)

/-- 'laws.FnExactSplit': WHATEVER THE INPUT: true; the input reads as it did. -/
def fnExactSplitSpec : ChangeSpec := { name := "fnExactSplit", fn := fun _ => fun
  | [d1, d2, d3] => { results := [.lit (.bool true)], args := [d1, d2, d3] }
  | _ => none }
def fnExactSplitRow : OpenClaim := { program := "ytgnhojiogkeepaagreat", sum := "6000b83f8ddcf38dd5d1a6e424a293535d19a226872c7de6b8b82a2c0ecf411a", func := "loop.example/g00076/laws.FnExactSplit", spec := "fnExactSplit", inPlace := ["slices.overlaps[loop.example/g00076/impl.Slot]"], unfollowed := true, recurses := true, apart := false }
def FnExactSplitSaid : Prop := fnExactSplitRow.holds Tryz.pinned (OpenSpec.ofChange fnExactSplitSpec)

/-- ITS FALSE NEIGHBOUR: 'it returns false'. Refute it at one input. -/
def fnExactSplitWrong : ChangeSpec := { name := "fnExactSplit", fn := fun _ => fun
  | [d1, d2, d3] => { results := [.lit (.bool false)], args := [d1, d2, d3] }
  | _ => none }
def FnExactSplitWrongFalsely : Prop := fnExactSplitRow.holds Tryz.pinned (OpenSpec.ofChange fnExactSplitWrong)

/-- 'laws.FnExactEven': WHATEVER THE INPUT: true; the input reads as it did. -/
def fnExactEvenSpec : ChangeSpec := { name := "fnExactEven", fn := fun _ => fun
  | [d1, d2, d3] => { results := [.lit (.bool true)], args := [d1, d2, d3] }
  | _ => none }
def fnExactEvenRow : OpenClaim := { program := "ytgnhojiogkeepaagreat", sum := "6000b83f8ddcf38dd5d1a6e424a293535d19a226872c7de6b8b82a2c0ecf411a", func := "loop.example/g00076/laws.FnExactEven", spec := "fnExactEven", inPlace := ["slices.overlaps[loop.example/g00076/impl.Slot]"], unfollowed := true, recurses := true, apart := false }
def FnExactEvenSaid : Prop := fnExactEvenRow.holds Tryz.pinned (OpenSpec.ofChange fnExactEvenSpec)

/-- ITS FALSE NEIGHBOUR: 'it returns false'. Refute it at one input. -/
def fnExactEvenWrong : ChangeSpec := { name := "fnExactEven", fn := fun _ => fun
  | [d1, d2, d3] => { results := [.lit (.bool false)], args := [d1, d2, d3] }
  | _ => none }
def FnExactEvenWrongFalsely : Prop := fnExactEvenRow.holds Tryz.pinned (OpenSpec.ofChange fnExactEvenWrong)

/- THE SECOND FORM. 'bulk': how many values and letters a reading holds, each counted each time it is reached (what is shared counts as often as it is met; a slice's spare places count too). A statement '..UptoSaid' is the law's where the arguments, and the package variables that the reading takes, are together of bulk at most 1048576: NARROWER than '..Said'. Prove '..Said' where nothing that the law and all that it calls make is longer than what came in: it says more and counts as full. Else prove '..UptoSaid'. A law counts once. -/
mutual
def uptoBulk {H : Type} : DataW H → Nat
  | .lit (.string bytes) => bytes.length + 1
  | .lit _ => 1
  | .nil => 1
  | .ptr d => uptoBulk d + 1
  | .slice elems spare => uptoBulkAll elems + uptoBulkAll spare + 1
  | .agg parts => uptoBulkAll parts + 1
  | .iface _ d => uptoBulk d + 1
  | .map entries => uptoBulkEntries entries + 1
  | .held _ => 1
def uptoBulkAll {H : Type} : List (DataW H) → Nat
  | [] => 0
  | d :: r => uptoBulk d + uptoBulkAll r
def uptoBulkEntries {H : Type} : List (Lit × DataW H) → Nat
  | [] => 0
  | x :: r => uptoBulkEntry x + uptoBulkEntries r
def uptoBulkEntry {H : Type} : Lit × DataW H → Nat
  | (.string bytes, d) => bytes.length + uptoBulk d + 1
  | (_, d) => uptoBulk d + 1
 end
def uptoSmall : (H : Type) → List (DataW H) → Bool := fun _ ds => decide (uptoBulkAll ds ≤ 1048576)
def OpenSpec.upto (s : _root_.Go.ChangeSpec) : _root_.Go.OpenSpec := { _root_.Go.OpenSpec.ofChange s with cond := some uptoSmall }

/-- 'laws.FnExactMerge', WHERE WHAT IT READS IS OF BULK AT MOST 1048576: true; the input reads as it did. -/
def fnExactMergeUptoRow : OpenClaim := { program := "ytgnhojiogkeepaagreat", sum := "6000b83f8ddcf38dd5d1a6e424a293535d19a226872c7de6b8b82a2c0ecf411a", func := "loop.example/g00076/laws.FnExactMerge", spec := "fnExactMerge", inPlace := ["slices.overlaps[loop.example/g00076/impl.Slot]"], unfollowed := true, recurses := true, apart := false, narrowed := true }
def FnExactMergeUptoSaid : Prop := fnExactMergeUptoRow.holds Tryz.pinned (OpenSpec.upto fnExactMergeSpec)

/-- 'laws.FnExactSplit', WHERE WHAT IT READS IS OF BULK AT MOST 1048576: true; the input reads as it did. -/
def fnExactSplitUptoRow : OpenClaim := { program := "ytgnhojiogkeepaagreat", sum := "6000b83f8ddcf38dd5d1a6e424a293535d19a226872c7de6b8b82a2c0ecf411a", func := "loop.example/g00076/laws.FnExactSplit", spec := "fnExactSplit", inPlace := ["slices.overlaps[loop.example/g00076/impl.Slot]"], unfollowed := true, recurses := true, apart := false, narrowed := true }
def FnExactSplitUptoSaid : Prop := fnExactSplitUptoRow.holds Tryz.pinned (OpenSpec.upto fnExactSplitSpec)

/-- 'laws.FnExactEven', WHERE WHAT IT READS IS OF BULK AT MOST 1048576: true; the input reads as it did. -/
def fnExactEvenUptoRow : OpenClaim := { program := "ytgnhojiogkeepaagreat", sum := "6000b83f8ddcf38dd5d1a6e424a293535d19a226872c7de6b8b82a2c0ecf411a", func := "loop.example/g00076/laws.FnExactEven", spec := "fnExactEven", inPlace := ["slices.overlaps[loop.example/g00076/impl.Slot]"], unfollowed := true, recurses := true, apart := false, narrowed := true }
def FnExactEvenUptoSaid : Prop := fnExactEvenUptoRow.holds Tryz.pinned (OpenSpec.upto fnExactEvenSpec)

end Rows
end Go.Proofs.YtgnhojiogkeepaaGreat
