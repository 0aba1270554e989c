/-
  No cell of these rows narrows 'for every input' (looked for: loops, veiled, ifaces, maps, wideKeys, modest, calm, conditions, laid).
  DERIVED. THE GIVEN ROWS OF THIS SEAT. 12 by the template 'for every input the law returns true; each argument reads behind the call as it read before'; 0 by the template 'total and deterministic' (their statements: YtgagpmiooeoodaaGreatTotals.lean).
  GIVEN WITH THE SEED: the statements are not yours to turn. If you find one false, say at which input.
  Laid BY PROGRAM, IN A SANDBOX (cutbox-rows.mjs): the forced cells as the released guide's own fill.sh prints them over the translation 54fcac58668a6712… (all of the seat's roots in one cut). By AI agents, Wed Nov 11 2026. No macro, syntax, notation, axiom, sorry.
-/
import Derived.Test.YtgagpmiooeoodaaGreatChecked
import GoSem.Claim
import GoSem.ClaimJoined
import GoSem.ClaimMapViews
import Derived.JoinedTies
import Derived.KernelRfl
namespace Go.Proofs.YtgagpmiooeoodaaGreat
/- THE CELL 'sum', in the pinned program and in every row, IS THE sha256 OF THE DUMP (.gsa) THAT YtgagpmiooeoodaaGreatProg.lean LOADS. Nothing in Lean hashes anything: it is a label: what it is worth is what the hold of that sum in a sandbox is worth. -/
noncomputable def Tryz.pinned : Pinned := { name := "ytgagpmiooeoodaagreat", sum := "54fcac58668a671211ce5ab706f7b935a70ba0e4a010be371f47a944c18b4ca9", checked := Tryz.checked }
namespace Rows
def none {H : Type} : Left H := { results := [], args := [] }

/-- 'laws.FnExactBlame': WHATEVER THE INPUT: true; the input reads as it did. -/
def fnExactBlameSpec : ChangeSpec := { name := "fnExactBlame", fn := fun _ => fun
  | [d1, d2] => { results := [.lit (.bool true)], args := [d1, d2] }
  | _ => none }
def fnExactBlameRow : OpenClaim := { program := "ytgagpmiooeoodaagreat", sum := "54fcac58668a671211ce5ab706f7b935a70ba0e4a010be371f47a944c18b4ca9", func := "loop.example/g00076/laws.FnExactBlame", spec := "fnExactBlame", unfollowed := true, recurses := true, apart := false }
def FnExactBlameSaid : Prop := fnExactBlameRow.holds Tryz.pinned (OpenSpec.ofChange fnExactBlameSpec)

/-- ITS FALSE NEIGHBOUR: 'it returns false'. Refute it at one input. -/
def fnExactBlameWrong : ChangeSpec := { name := "fnExactBlame", fn := fun _ => fun
  | [d1, d2] => { results := [.lit (.bool false)], args := [d1, d2] }
  | _ => none }
def FnExactBlameWrongFalsely : Prop := fnExactBlameRow.holds Tryz.pinned (OpenSpec.ofChange fnExactBlameWrong)

/-- 'laws.FnExactImagesOk': WHATEVER THE INPUT: true; the input reads as it did. -/
def fnExactImagesOkSpec : ChangeSpec := { name := "fnExactImagesOk", fn := fun _ => fun
  | [d1, d2] => { results := [.lit (.bool true)], args := [d1, d2] }
  | _ => none }
def fnExactImagesOkRow : OpenClaim := { program := "ytgagpmiooeoodaagreat", sum := "54fcac58668a671211ce5ab706f7b935a70ba0e4a010be371f47a944c18b4ca9", func := "loop.example/g00076/laws.FnExactImagesOk", spec := "fnExactImagesOk", unfollowed := true, recurses := true, apart := false }
def FnExactImagesOkSaid : Prop := fnExactImagesOkRow.holds Tryz.pinned (OpenSpec.ofChange fnExactImagesOkSpec)

/-- ITS FALSE NEIGHBOUR: 'it returns false'. Refute it at one input. -/
def fnExactImagesOkWrong : ChangeSpec := { name := "fnExactImagesOk", fn := fun _ => fun
  | [d1, d2] => { results := [.lit (.bool false)], args := [d1, d2] }
  | _ => none }
def FnExactImagesOkWrongFalsely : Prop := fnExactImagesOkRow.holds Tryz.pinned (OpenSpec.ofChange fnExactImagesOkWrong)

/-- 'laws.FnExactJoined': WHATEVER THE INPUT: true; the input reads as it did. -/
def fnExactJoinedSpec : ChangeSpec := { name := "fnExactJoined", fn := fun _ => fun
  | [d1, d2] => { results := [.lit (.bool true)], args := [d1, d2] }
  | _ => none }
def fnExactJoinedRow : OpenClaim := { program := "ytgagpmiooeoodaagreat", sum := "54fcac58668a671211ce5ab706f7b935a70ba0e4a010be371f47a944c18b4ca9", func := "loop.example/g00076/laws.FnExactJoined", spec := "fnExactJoined", unfollowed := true, recurses := true, apart := false }
def FnExactJoinedSaid : Prop := fnExactJoinedRow.holds Tryz.pinned (OpenSpec.ofChange fnExactJoinedSpec)

/-- ITS FALSE NEIGHBOUR: 'it returns false'. Refute it at one input. -/
def fnExactJoinedWrong : ChangeSpec := { name := "fnExactJoined", fn := fun _ => fun
  | [d1, d2] => { results := [.lit (.bool false)], args := [d1, d2] }
  | _ => none }
def FnExactJoinedWrongFalsely : Prop := fnExactJoinedRow.holds Tryz.pinned (OpenSpec.ofChange fnExactJoinedWrong)

/-- 'laws.FnExactSpansOk': WHATEVER THE INPUT: true; the input reads as it did. -/
def fnExactSpansOkSpec : ChangeSpec := { name := "fnExactSpansOk", fn := fun _ => fun
  | [d1, d2, d3, d4] => { results := [.lit (.bool true)], args := [d1, d2, d3, d4] }
  | _ => none }
def fnExactSpansOkRow : OpenClaim := { program := "ytgagpmiooeoodaagreat", sum := "54fcac58668a671211ce5ab706f7b935a70ba0e4a010be371f47a944c18b4ca9", func := "loop.example/g00076/laws.FnExactSpansOk", spec := "fnExactSpansOk", unfollowed := true, recurses := true, apart := false }
def FnExactSpansOkSaid : Prop := fnExactSpansOkRow.holds Tryz.pinned (OpenSpec.ofChange fnExactSpansOkSpec)

/-- ITS FALSE NEIGHBOUR: 'it returns false'. Refute it at one input. -/
def fnExactSpansOkWrong : ChangeSpec := { name := "fnExactSpansOk", fn := fun _ => fun
  | [d1, d2, d3, d4] => { results := [.lit (.bool false)], args := [d1, d2, d3, d4] }
  | _ => none }
def FnExactSpansOkWrongFalsely : Prop := fnExactSpansOkRow.holds Tryz.pinned (OpenSpec.ofChange fnExactSpansOkWrong)

/-- 'laws.FnExactLoadImage': WHATEVER THE INPUT: true; the input reads as it did. -/
def fnExactLoadImageSpec : ChangeSpec := { name := "fnExactLoadImage", fn := fun _ => fun
  | [d1, d2, d3] => { results := [.lit (.bool true)], args := [d1, d2, d3] }
  | _ => none }
def fnExactLoadImageRow : OpenClaim := { program := "ytgagpmiooeoodaagreat", sum := "54fcac58668a671211ce5ab706f7b935a70ba0e4a010be371f47a944c18b4ca9", func := "loop.example/g00076/laws.FnExactLoadImage", spec := "fnExactLoadImage", unfollowed := true, recurses := true, apart := false }
def FnExactLoadImageSaid : Prop := fnExactLoadImageRow.holds Tryz.pinned (OpenSpec.ofChange fnExactLoadImageSpec)

/-- ITS FALSE NEIGHBOUR: 'it returns false'. Refute it at one input. -/
def fnExactLoadImageWrong : ChangeSpec := { name := "fnExactLoadImage", fn := fun _ => fun
  | [d1, d2, d3] => { results := [.lit (.bool false)], args := [d1, d2, d3] }
  | _ => none }
def FnExactLoadImageWrongFalsely : Prop := fnExactLoadImageRow.holds Tryz.pinned (OpenSpec.ofChange fnExactLoadImageWrong)

/-- 'laws.FnExactSpans': WHATEVER THE INPUT: true; the input reads as it did. -/
def fnExactSpansSpec : ChangeSpec := { name := "fnExactSpans", fn := fun _ => fun
  | [d1, d2, d3] => { results := [.lit (.bool true)], args := [d1, d2, d3] }
  | _ => none }
def fnExactSpansRow : OpenClaim := { program := "ytgagpmiooeoodaagreat", sum := "54fcac58668a671211ce5ab706f7b935a70ba0e4a010be371f47a944c18b4ca9", func := "loop.example/g00076/laws.FnExactSpans", spec := "fnExactSpans", unfollowed := true, recurses := true, apart := false }
def FnExactSpansSaid : Prop := fnExactSpansRow.holds Tryz.pinned (OpenSpec.ofChange fnExactSpansSpec)

/-- ITS FALSE NEIGHBOUR: 'it returns false'. Refute it at one input. -/
def fnExactSpansWrong : ChangeSpec := { name := "fnExactSpans", fn := fun _ => fun
  | [d1, d2, d3] => { results := [.lit (.bool false)], args := [d1, d2, d3] }
  | _ => none }
def FnExactSpansWrongFalsely : Prop := fnExactSpansRow.holds Tryz.pinned (OpenSpec.ofChange fnExactSpansWrong)

/-- 'laws.FnExactPlan': WHATEVER THE INPUT: true; the input reads as it did. -/
def fnExactPlanSpec : ChangeSpec := { name := "fnExactPlan", fn := fun _ => fun
  | [d1, d2] => { results := [.lit (.bool true)], args := [d1, d2] }
  | _ => none }
def fnExactPlanRow : OpenClaim := { program := "ytgagpmiooeoodaagreat", sum := "54fcac58668a671211ce5ab706f7b935a70ba0e4a010be371f47a944c18b4ca9", func := "loop.example/g00076/laws.FnExactPlan", spec := "fnExactPlan", unfollowed := true, recurses := true, apart := false }
def FnExactPlanSaid : Prop := fnExactPlanRow.holds Tryz.pinned (OpenSpec.ofChange fnExactPlanSpec)

/-- ITS FALSE NEIGHBOUR: 'it returns false'. Refute it at one input. -/
def fnExactPlanWrong : ChangeSpec := { name := "fnExactPlan", fn := fun _ => fun
  | [d1, d2] => { results := [.lit (.bool false)], args := [d1, d2] }
  | _ => none }
def FnExactPlanWrongFalsely : Prop := fnExactPlanRow.holds Tryz.pinned (OpenSpec.ofChange fnExactPlanWrong)

/-- 'laws.FnExactCmdsFor': WHATEVER THE INPUT: true; the input reads as it did. -/
def fnExactCmdsForSpec : ChangeSpec := { name := "fnExactCmdsFor", fn := fun _ => fun
  | [d1, d2, d3] => { results := [.lit (.bool true)], args := [d1, d2, d3] }
  | _ => none }
def fnExactCmdsForRow : OpenClaim := { program := "ytgagpmiooeoodaagreat", sum := "54fcac58668a671211ce5ab706f7b935a70ba0e4a010be371f47a944c18b4ca9", func := "loop.example/g00076/laws.FnExactCmdsFor", spec := "fnExactCmdsFor", unfollowed := true, recurses := true, apart := false }
def FnExactCmdsForSaid : Prop := fnExactCmdsForRow.holds Tryz.pinned (OpenSpec.ofChange fnExactCmdsForSpec)

/-- ITS FALSE NEIGHBOUR: 'it returns false'. Refute it at one input. -/
def fnExactCmdsForWrong : ChangeSpec := { name := "fnExactCmdsFor", fn := fun _ => fun
  | [d1, d2, d3] => { results := [.lit (.bool false)], args := [d1, d2, d3] }
  | _ => none }
def FnExactCmdsForWrongFalsely : Prop := fnExactCmdsForRow.holds Tryz.pinned (OpenSpec.ofChange fnExactCmdsForWrong)

/-- 'laws.FnExactSameFor': WHATEVER THE INPUT: true; the input reads as it did. -/
def fnExactSameForSpec : ChangeSpec := { name := "fnExactSameFor", fn := fun _ => fun
  | [d1, d2, d3, d4, d5, d6] => { results := [.lit (.bool true)], args := [d1, d2, d3, d4, d5, d6] }
  | _ => none }
def fnExactSameForRow : OpenClaim := { program := "ytgagpmiooeoodaagreat", sum := "54fcac58668a671211ce5ab706f7b935a70ba0e4a010be371f47a944c18b4ca9", func := "loop.example/g00076/laws.FnExactSameFor", spec := "fnExactSameFor", unfollowed := true, recurses := true, apart := false }
def FnExactSameForSaid : Prop := fnExactSameForRow.holds Tryz.pinned (OpenSpec.ofChange fnExactSameForSpec)

/-- ITS FALSE NEIGHBOUR: 'it returns false'. Refute it at one input. -/
def fnExactSameForWrong : ChangeSpec := { name := "fnExactSameFor", fn := fun _ => fun
  | [d1, d2, d3, d4, d5, d6] => { results := [.lit (.bool false)], args := [d1, d2, d3, d4, d5, d6] }
  | _ => none }
def FnExactSameForWrongFalsely : Prop := fnExactSameForRow.holds Tryz.pinned (OpenSpec.ofChange fnExactSameForWrong)

/-- 'laws.FnExactMerge': WHATEVER THE INPUT: true; the input reads as it did. -/
def fnExactMergeSpec : ChangeSpec := { name := "fnExactMerge", fn := fun _ => fun
  | [d1, d2] => { results := [.lit (.bool true)], args := [d1, d2] }
  | _ => none }
def fnExactMergeRow : OpenClaim := { program := "ytgagpmiooeoodaagreat", sum := "54fcac58668a671211ce5ab706f7b935a70ba0e4a010be371f47a944c18b4ca9", func := "loop.example/g00076/laws.FnExactMerge", spec := "fnExactMerge", inPlace := ["slices.overlaps[loop.example/g00076/impl.Slot]"], unfollowed := true, recurses := true, apart := false }
def FnExactMergeSaid : Prop := fnExactMergeRow.holds Tryz.pinned (OpenSpec.ofChange fnExactMergeSpec)

/-- ITS FALSE NEIGHBOUR: 'it returns false'. Refute it at one input. -/
def fnExactMergeWrong : ChangeSpec := { name := "fnExactMerge", fn := fun _ => fun
  | [d1, d2] => { results := [.lit (.bool false)], args := [d1, d2] }
  | _ => none }
def FnExactMergeWrongFalsely : Prop := fnExactMergeRow.holds Tryz.pinned (OpenSpec.ofChange fnExactMergeWrong)

/-- 'laws.FnExactSplit': WHATEVER THE INPUT: true; the input reads as it did. -/
def fnExactSplitSpec : ChangeSpec := { name := "fnExactSplit", fn := fun _ => fun
  | [d1, d2, d3] => { results := [.lit (.bool true)], args := [d1, d2, d3] }
  | _ => none }
def fnExactSplitRow : OpenClaim := { program := "ytgagpmiooeoodaagreat", sum := "54fcac58668a671211ce5ab706f7b935a70ba0e4a010be371f47a944c18b4ca9", func := "loop.example/g00076/laws.FnExactSplit", spec := "fnExactSplit", inPlace := ["slices.overlaps[loop.example/g00076/impl.Slot]"], unfollowed := true, recurses := true, apart := false }
def FnExactSplitSaid : Prop := fnExactSplitRow.holds Tryz.pinned (OpenSpec.ofChange fnExactSplitSpec)

/-- ITS FALSE NEIGHBOUR: 'it returns false'. Refute it at one input. -/
def fnExactSplitWrong : ChangeSpec := { name := "fnExactSplit", fn := fun _ => fun
  | [d1, d2, d3] => { results := [.lit (.bool false)], args := [d1, d2, d3] }
  | _ => none }
def FnExactSplitWrongFalsely : Prop := fnExactSplitRow.holds Tryz.pinned (OpenSpec.ofChange fnExactSplitWrong)

/-- 'laws.FnExactEven': WHATEVER THE INPUT: true; the input reads as it did. -/
def fnExactEvenSpec : ChangeSpec := { name := "fnExactEven", fn := fun _ => fun
  | [d1, d2, d3] => { results := [.lit (.bool true)], args := [d1, d2, d3] }
  | _ => none }
def fnExactEvenRow : OpenClaim := { program := "ytgagpmiooeoodaagreat", sum := "54fcac58668a671211ce5ab706f7b935a70ba0e4a010be371f47a944c18b4ca9", func := "loop.example/g00076/laws.FnExactEven", spec := "fnExactEven", inPlace := ["slices.overlaps[loop.example/g00076/impl.Slot]"], unfollowed := true, recurses := true, apart := false }
def FnExactEvenSaid : Prop := fnExactEvenRow.holds Tryz.pinned (OpenSpec.ofChange fnExactEvenSpec)

/-- ITS FALSE NEIGHBOUR: 'it returns false'. Refute it at one input. -/
def fnExactEvenWrong : ChangeSpec := { name := "fnExactEven", fn := fun _ => fun
  | [d1, d2, d3] => { results := [.lit (.bool false)], args := [d1, d2, d3] }
  | _ => none }
def FnExactEvenWrongFalsely : Prop := fnExactEvenRow.holds Tryz.pinned (OpenSpec.ofChange fnExactEvenWrong)

/- THE SECOND FORM. 'bulk': how many values and letters a reading holds, each counted each time it is reached (what is shared counts as often as it is met; a slice's spare places count too). A statement '..UptoSaid' is the law's where the arguments, and the package variables that the reading takes, are together of bulk at most 1048576: NARROWER than '..Said'. Prove '..Said' where nothing that the law and all that it calls make is longer than what came in: it says more and counts as full. Else prove '..UptoSaid'. A law counts once. -/
mutual
def uptoBulk {H : Type} : DataW H → Nat
  | .lit (.string bytes) => bytes.length + 1
  | .lit _ => 1
  | .nil => 1
  | .ptr d => uptoBulk d + 1
  | .slice elems spare => uptoBulkAll elems + uptoBulkAll spare + 1
  | .agg parts => uptoBulkAll parts + 1
  | .iface _ d => uptoBulk d + 1
  | .map entries => uptoBulkEntries entries + 1
  | .held _ => 1
def uptoBulkAll {H : Type} : List (DataW H) → Nat
  | [] => 0
  | d :: r => uptoBulk d + uptoBulkAll r
def uptoBulkEntries {H : Type} : List (Lit × DataW H) → Nat
  | [] => 0
  | x :: r => uptoBulkEntry x + uptoBulkEntries r
def uptoBulkEntry {H : Type} : Lit × DataW H → Nat
  | (.string bytes, d) => bytes.length + uptoBulk d + 1
  | (_, d) => uptoBulk d + 1
 end
def uptoSmall : (H : Type) → List (DataW H) → Bool := fun _ ds => decide (uptoBulkAll ds ≤ 1048576)
def OpenSpec.upto (s : _root_.Go.ChangeSpec) : _root_.Go.OpenSpec := { _root_.Go.OpenSpec.ofChange s with cond := some uptoSmall }

/-- 'laws.FnExactBlame', WHERE WHAT IT READS IS OF BULK AT MOST 1048576: true; the input reads as it did. -/
def fnExactBlameUptoRow : OpenClaim := { program := "ytgagpmiooeoodaagreat", sum := "54fcac58668a671211ce5ab706f7b935a70ba0e4a010be371f47a944c18b4ca9", func := "loop.example/g00076/laws.FnExactBlame", spec := "fnExactBlame", unfollowed := true, recurses := true, apart := false, narrowed := true }
def FnExactBlameUptoSaid : Prop := fnExactBlameUptoRow.holds Tryz.pinned (OpenSpec.upto fnExactBlameSpec)

/-- 'laws.FnExactImagesOk', WHERE WHAT IT READS IS OF BULK AT MOST 1048576: true; the input reads as it did. -/
def fnExactImagesOkUptoRow : OpenClaim := { program := "ytgagpmiooeoodaagreat", sum := "54fcac58668a671211ce5ab706f7b935a70ba0e4a010be371f47a944c18b4ca9", func := "loop.example/g00076/laws.FnExactImagesOk", spec := "fnExactImagesOk", unfollowed := true, recurses := true, apart := false, narrowed := true }
def FnExactImagesOkUptoSaid : Prop := fnExactImagesOkUptoRow.holds Tryz.pinned (OpenSpec.upto fnExactImagesOkSpec)

/-- 'laws.FnExactJoined', WHERE WHAT IT READS IS OF BULK AT MOST 1048576: true; the input reads as it did. -/
def fnExactJoinedUptoRow : OpenClaim := { program := "ytgagpmiooeoodaagreat", sum := "54fcac58668a671211ce5ab706f7b935a70ba0e4a010be371f47a944c18b4ca9", func := "loop.example/g00076/laws.FnExactJoined", spec := "fnExactJoined", unfollowed := true, recurses := true, apart := false, narrowed := true }
def FnExactJoinedUptoSaid : Prop := fnExactJoinedUptoRow.holds Tryz.pinned (OpenSpec.upto fnExactJoinedSpec)

/-- 'laws.FnExactSpansOk', WHERE WHAT IT READS IS OF BULK AT MOST 1048576: true; the input reads as it did. -/
def fnExactSpansOkUptoRow : OpenClaim := { program := "ytgagpmiooeoodaagreat", sum := "54fcac58668a671211ce5ab706f7b935a70ba0e4a010be371f47a944c18b4ca9", func := "loop.example/g00076/laws.FnExactSpansOk", spec := "fnExactSpansOk", unfollowed := true, recurses := true, apart := false, narrowed := true }
def FnExactSpansOkUptoSaid : Prop := fnExactSpansOkUptoRow.holds Tryz.pinned (OpenSpec.upto fnExactSpansOkSpec)

/-- 'laws.FnExactLoadImage', WHERE WHAT IT READS IS OF BULK AT MOST 1048576: true; the input reads as it did. -/
def fnExactLoadImageUptoRow : OpenClaim := { program := "ytgagpmiooeoodaagreat", sum := "54fcac58668a671211ce5ab706f7b935a70ba0e4a010be371f47a944c18b4ca9", func := "loop.example/g00076/laws.FnExactLoadImage", spec := "fnExactLoadImage", unfollowed := true, recurses := true, apart := false, narrowed := true }
def FnExactLoadImageUptoSaid : Prop := fnExactLoadImageUptoRow.holds Tryz.pinned (OpenSpec.upto fnExactLoadImageSpec)

/-- 'laws.FnExactSpans', WHERE WHAT IT READS IS OF BULK AT MOST 1048576: true; the input reads as it did. -/
def fnExactSpansUptoRow : OpenClaim := { program := "ytgagpmiooeoodaagreat", sum := "54fcac58668a671211ce5ab706f7b935a70ba0e4a010be371f47a944c18b4ca9", func := "loop.example/g00076/laws.FnExactSpans", spec := "fnExactSpans", unfollowed := true, recurses := true, apart := false, narrowed := true }
def FnExactSpansUptoSaid : Prop := fnExactSpansUptoRow.holds Tryz.pinned (OpenSpec.upto fnExactSpansSpec)

/-- 'laws.FnExactPlan', WHERE WHAT IT READS IS OF BULK AT MOST 1048576: true; the input reads as it did. -/
def fnExactPlanUptoRow : OpenClaim := { program := "ytgagpmiooeoodaagreat", sum := "54fcac58668a671211ce5ab706f7b935a70ba0e4a010be371f47a944c18b4ca9", func := "loop.example/g00076/laws.FnExactPlan", spec := "fnExactPlan", unfollowed := true, recurses := true, apart := false, narrowed := true }
def FnExactPlanUptoSaid : Prop := fnExactPlanUptoRow.holds Tryz.pinned (OpenSpec.upto fnExactPlanSpec)

/-- 'laws.FnExactCmdsFor', WHERE WHAT IT READS IS OF BULK AT MOST 1048576: true; the input reads as it did. -/
def fnExactCmdsForUptoRow : OpenClaim := { program := "ytgagpmiooeoodaagreat", sum := "54fcac58668a671211ce5ab706f7b935a70ba0e4a010be371f47a944c18b4ca9", func := "loop.example/g00076/laws.FnExactCmdsFor", spec := "fnExactCmdsFor", unfollowed := true, recurses := true, apart := false, narrowed := true }
def FnExactCmdsForUptoSaid : Prop := fnExactCmdsForUptoRow.holds Tryz.pinned (OpenSpec.upto fnExactCmdsForSpec)

/-- 'laws.FnExactSameFor', WHERE WHAT IT READS IS OF BULK AT MOST 1048576: true; the input reads as it did. -/
def fnExactSameForUptoRow : OpenClaim := { program := "ytgagpmiooeoodaagreat", sum := "54fcac58668a671211ce5ab706f7b935a70ba0e4a010be371f47a944c18b4ca9", func := "loop.example/g00076/laws.FnExactSameFor", spec := "fnExactSameFor", unfollowed := true, recurses := true, apart := false, narrowed := true }
def FnExactSameForUptoSaid : Prop := fnExactSameForUptoRow.holds Tryz.pinned (OpenSpec.upto fnExactSameForSpec)

/-- 'laws.FnExactMerge', WHERE WHAT IT READS IS OF BULK AT MOST 1048576: true; the input reads as it did. -/
def fnExactMergeUptoRow : OpenClaim := { program := "ytgagpmiooeoodaagreat", sum := "54fcac58668a671211ce5ab706f7b935a70ba0e4a010be371f47a944c18b4ca9", func := "loop.example/g00076/laws.FnExactMerge", spec := "fnExactMerge", inPlace := ["slices.overlaps[loop.example/g00076/impl.Slot]"], unfollowed := true, recurses := true, apart := false, narrowed := true }
def FnExactMergeUptoSaid : Prop := fnExactMergeUptoRow.holds Tryz.pinned (OpenSpec.upto fnExactMergeSpec)

/-- 'laws.FnExactSplit', WHERE WHAT IT READS IS OF BULK AT MOST 1048576: true; the input reads as it did. -/
def fnExactSplitUptoRow : OpenClaim := { program := "ytgagpmiooeoodaagreat", sum := "54fcac58668a671211ce5ab706f7b935a70ba0e4a010be371f47a944c18b4ca9", func := "loop.example/g00076/laws.FnExactSplit", spec := "fnExactSplit", inPlace := ["slices.overlaps[loop.example/g00076/impl.Slot]"], unfollowed := true, recurses := true, apart := false, narrowed := true }
def FnExactSplitUptoSaid : Prop := fnExactSplitUptoRow.holds Tryz.pinned (OpenSpec.upto fnExactSplitSpec)

/-- 'laws.FnExactEven', WHERE WHAT IT READS IS OF BULK AT MOST 1048576: true; the input reads as it did. -/
def fnExactEvenUptoRow : OpenClaim := { program := "ytgagpmiooeoodaagreat", sum := "54fcac58668a671211ce5ab706f7b935a70ba0e4a010be371f47a944c18b4ca9", func := "loop.example/g00076/laws.FnExactEven", spec := "fnExactEven", inPlace := ["slices.overlaps[loop.example/g00076/impl.Slot]"], unfollowed := true, recurses := true, apart := false, narrowed := true }
def FnExactEvenUptoSaid : Prop := fnExactEvenUptoRow.holds Tryz.pinned (OpenSpec.upto fnExactEvenSpec)

end Rows
end Go.Proofs.YtgagpmiooeoodaaGreat
