/-
  No cell of these rows narrows 'for every input' (looked for: loops, veiled, ifaces, maps, wideKeys, modest, calm, conditions, laid).
  DERIVED. THE GIVEN ROWS OF THIS SEAT. 3 by the template 'for every input the law returns true; each argument reads behind the call as it read before'; 0 by the template 'total and deterministic' (their statements: YtfmcncflooechaaGreatTotals.lean).
  GIVEN WITH THE SEED: the statements are not yours to turn. If you find one false, say at which input.
  Laid BY PROGRAM, IN A SANDBOX (cutbox-rows.mjs): the forced cells as the released guide's own fill.sh prints them over the translation f1262437f38466e8… (all of the seat's roots in one cut). By AI agents, Wed Nov 11 2026. No macro, syntax, notation, axiom, sorry.
-/
import Derived.Test.YtfmcncflooechaaGreatChecked
import GoSem.Claim
import GoSem.ClaimJoined
import GoSem.ClaimMapViews
import Derived.JoinedTies
import Derived.KernelRfl
namespace Go.Proofs.YtfmcncflooechaaGreat
/- THE CELL 'sum', in the pinned program and in every row, IS THE sha256 OF THE DUMP (.gsa) THAT YtfmcncflooechaaGreatProg.lean LOADS. Nothing in Lean hashes anything: it is a label: what it is worth is what the hold of that sum in a sandbox is worth. -/
noncomputable def Tryz.pinned : Pinned := { name := "ytfmcncflooechaagreat", sum := "f1262437f38466e8c064e9c48c1e66c1577d116bfac5671e8a9f976844567ccf", checked := Tryz.checked }
namespace Rows
def none {H : Type} : Left H := { results := [], args := [] }

/-- 'laws.FnExactApplyChanges': WHATEVER THE INPUT: true; the input reads as it did. -/
def fnExactApplyChangesSpec : ChangeSpec := { name := "fnExactApplyChanges", fn := fun _ => fun
  | [d1, d2, d3] => { results := [.lit (.bool true)], args := [d1, d2, d3] }
  | _ => none }
def fnExactApplyChangesRow : OpenClaim := { program := "ytfmcncflooechaagreat", sum := "f1262437f38466e8c064e9c48c1e66c1577d116bfac5671e8a9f976844567ccf", func := "loop.example/g00090/laws.FnExactApplyChanges", spec := "fnExactApplyChanges", unfollowed := true, recurses := true, apart := false }
def FnExactApplyChangesSaid : Prop := fnExactApplyChangesRow.holds Tryz.pinned (OpenSpec.ofChange fnExactApplyChangesSpec)

/-- ITS FALSE NEIGHBOUR: 'it returns false'. Refute it at one input. -/
def fnExactApplyChangesWrong : ChangeSpec := { name := "fnExactApplyChanges", fn := fun _ => fun
  | [d1, d2, d3] => { results := [.lit (.bool false)], args := [d1, d2, d3] }
  | _ => none }
def FnExactApplyChangesWrongFalsely : Prop := fnExactApplyChangesRow.holds Tryz.pinned (OpenSpec.ofChange fnExactApplyChangesWrong)

/-- 'laws.FnExactChangesOf': WHATEVER THE INPUT: true; the input reads as it did. -/
def fnExactChangesOfSpec : ChangeSpec := { name := "fnExactChangesOf", fn := fun _ => fun
  | [d1, d2, d3] => { results := [.lit (.bool true)], args := [d1, d2, d3] }
  | _ => none }
def fnExactChangesOfRow : OpenClaim := { program := "ytfmcncflooechaagreat", sum := "f1262437f38466e8c064e9c48c1e66c1577d116bfac5671e8a9f976844567ccf", func := "loop.example/g00090/laws.FnExactChangesOf", spec := "fnExactChangesOf", unfollowed := true, recurses := true, apart := false }
def FnExactChangesOfSaid : Prop := fnExactChangesOfRow.holds Tryz.pinned (OpenSpec.ofChange fnExactChangesOfSpec)

/-- ITS FALSE NEIGHBOUR: 'it returns false'. Refute it at one input. -/
def fnExactChangesOfWrong : ChangeSpec := { name := "fnExactChangesOf", fn := fun _ => fun
  | [d1, d2, d3] => { results := [.lit (.bool false)], args := [d1, d2, d3] }
  | _ => none }
def FnExactChangesOfWrongFalsely : Prop := fnExactChangesOfRow.holds Tryz.pinned (OpenSpec.ofChange fnExactChangesOfWrong)

/-- 'laws.FnStories': WHATEVER THE INPUT: true; the input reads as it did. -/
def fnStoriesSpec : ChangeSpec := { name := "fnStories", fn := fun _ => fun
  | [d] => { results := [.lit (.bool true)], args := [d] }
  | _ => none }
def fnStoriesRow : OpenClaim := { program := "ytfmcncflooechaagreat", sum := "f1262437f38466e8c064e9c48c1e66c1577d116bfac5671e8a9f976844567ccf", func := "loop.example/g00090/laws.FnStories", spec := "fnStories", unfollowed := true, recurses := true, apart := false }
def FnStoriesSaid : Prop := fnStoriesRow.holds Tryz.pinned (OpenSpec.ofChange fnStoriesSpec)

/-- ITS FALSE NEIGHBOUR: 'it returns false'. Refute it at one input. -/
def fnStoriesWrong : ChangeSpec := { name := "fnStories", fn := fun _ => fun
  | [d] => { results := [.lit (.bool false)], args := [d] }
  | _ => none }
def FnStoriesWrongFalsely : Prop := fnStoriesRow.holds Tryz.pinned (OpenSpec.ofChange fnStoriesWrong)

/- THE SECOND FORM. 'bulk': how many values and letters a reading holds, each counted each time it is reached (what is shared counts as often as it is met; a slice's spare places count too). A statement '..UptoSaid' is the law's where the arguments, and the package variables that the reading takes, are together of bulk at most 1048576: NARROWER than '..Said'. Prove '..Said' where nothing that the law and all that it calls make is longer than what came in: it says more and counts as full. Else prove '..UptoSaid'. A law counts once. -/
mutual
def uptoBulk {H : Type} : DataW H → Nat
  | .lit (.string bytes) => bytes.length + 1
  | .lit _ => 1
  | .nil => 1
  | .ptr d => uptoBulk d + 1
  | .slice elems spare => uptoBulkAll elems + uptoBulkAll spare + 1
  | .agg parts => uptoBulkAll parts + 1
  | .iface _ d => uptoBulk d + 1
  | .map entries => uptoBulkEntries entries + 1
  | .held _ => 1
def uptoBulkAll {H : Type} : List (DataW H) → Nat
  | [] => 0
  | d :: r => uptoBulk d + uptoBulkAll r
def uptoBulkEntries {H : Type} : List (Lit × DataW H) → Nat
  | [] => 0
  | x :: r => uptoBulkEntry x + uptoBulkEntries r
def uptoBulkEntry {H : Type} : Lit × DataW H → Nat
  | (.string bytes, d) => bytes.length + uptoBulk d + 1
  | (_, d) => uptoBulk d + 1
 end
def uptoSmall : (H : Type) → List (DataW H) → Bool := fun _ ds => decide (uptoBulkAll ds ≤ 1048576)
def OpenSpec.upto (s : _root_.Go.ChangeSpec) : _root_.Go.OpenSpec := { _root_.Go.OpenSpec.ofChange s with cond := some uptoSmall }

/-- 'laws.FnExactApplyChanges', WHERE WHAT IT READS IS OF BULK AT MOST 1048576: true; the input reads as it did. -/
def fnExactApplyChangesUptoRow : OpenClaim := { program := "ytfmcncflooechaagreat", sum := "f1262437f38466e8c064e9c48c1e66c1577d116bfac5671e8a9f976844567ccf", func := "loop.example/g00090/laws.FnExactApplyChanges", spec := "fnExactApplyChanges", unfollowed := true, recurses := true, apart := false, narrowed := true }
def FnExactApplyChangesUptoSaid : Prop := fnExactApplyChangesUptoRow.holds Tryz.pinned (OpenSpec.upto fnExactApplyChangesSpec)

/-- 'laws.FnExactChangesOf', WHERE WHAT IT READS IS OF BULK AT MOST 1048576: true; the input reads as it did. -/
def fnExactChangesOfUptoRow : OpenClaim := { program := "ytfmcncflooechaagreat", sum := "f1262437f38466e8c064e9c48c1e66c1577d116bfac5671e8a9f976844567ccf", func := "loop.example/g00090/laws.FnExactChangesOf", spec := "fnExactChangesOf", unfollowed := true, recurses := true, apart := false, narrowed := true }
def FnExactChangesOfUptoSaid : Prop := fnExactChangesOfUptoRow.holds Tryz.pinned (OpenSpec.upto fnExactChangesOfSpec)

/-- 'laws.FnStories', WHERE WHAT IT READS IS OF BULK AT MOST 1048576: true; the input reads as it did. -/
def fnStoriesUptoRow : OpenClaim := { program := "ytfmcncflooechaagreat", sum := "f1262437f38466e8c064e9c48c1e66c1577d116bfac5671e8a9f976844567ccf", func := "loop.example/g00090/laws.FnStories", spec := "fnStories", unfollowed := true, recurses := true, apart := false, narrowed := true }
def FnStoriesUptoSaid : Prop := fnStoriesUptoRow.holds Tryz.pinned (OpenSpec.upto fnStoriesSpec)

end Rows
end Go.Proofs.YtfmcncflooechaaGreat
