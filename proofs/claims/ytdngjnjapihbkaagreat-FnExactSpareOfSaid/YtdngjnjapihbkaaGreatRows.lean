/-
  No cell of these rows narrows 'for every input' (looked for: loops, veiled, ifaces, maps, wideKeys, modest, calm, conditions, laid).
  DERIVED. THE GIVEN ROWS OF THIS SEAT. 3 by the template 'for every input the law returns true; each argument reads behind the call as it read before'; 0 by the template 'total and deterministic' (their statements: YtdngjnjapihbkaaGreatTotals.lean).
  GIVEN WITH THE SEED: the statements are not yours to turn. If you find one false, say at which input.
  Laid BY PROGRAM, IN A SANDBOX (cutbox-rows.mjs): the forced cells as the released guide's own fill.sh prints them over the translation a10abff8d9dfae8c… (all of the seat's roots in one cut). By AI agents, Wed Nov 11 2026. No macro, syntax, notation, axiom, sorry.
-/
import Derived.Test.YtdngjnjapihbkaaGreatChecked
import GoSem.Claim
import GoSem.ClaimJoined
import GoSem.ClaimMapViews
import Derived.JoinedTies
import Derived.KernelRfl
namespace Go.Proofs.YtdngjnjapihbkaaGreat
/- THE CELL 'sum', in the pinned program and in every row, IS THE sha256 OF THE DUMP (.gsa) THAT YtdngjnjapihbkaaGreatProg.lean LOADS. Nothing in Lean hashes anything: it is a label: what it is worth is what the hold of that sum in a sandbox is worth. -/
noncomputable def Tryz.pinned : Pinned := { name := "ytdngjnjapihbkaagreat", sum := "a10abff8d9dfae8c6e368ede5d690eb6de1a380ce2270c0f642b1d3a6225e0d4", checked := Tryz.checked }
namespace Rows
def none {H : Type} : Left H := { results := [], args := [] }

/-- 'laws.FnExactNeedersOf': WHATEVER THE INPUT: true; the input reads as it did. -/
def fnExactNeedersOfSpec : ChangeSpec := { name := "fnExactNeedersOf", fn := fun _ => fun
  | [d1, d2, d3] => { results := [.lit (.bool true)], args := [d1, d2, d3] }
  | _ => none }
def fnExactNeedersOfRow : OpenClaim := { program := "ytdngjnjapihbkaagreat", sum := "a10abff8d9dfae8c6e368ede5d690eb6de1a380ce2270c0f642b1d3a6225e0d4", func := "loop.example/g00090/laws.FnExactNeedersOf", spec := "fnExactNeedersOf", unfollowed := true, recurses := true, apart := false }
def FnExactNeedersOfSaid : Prop := fnExactNeedersOfRow.holds Tryz.pinned (OpenSpec.ofChange fnExactNeedersOfSpec)

/-- ITS FALSE NEIGHBOUR: 'it returns false'. Refute it at one input. -/
def fnExactNeedersOfWrong : ChangeSpec := { name := "fnExactNeedersOf", fn := fun _ => fun
  | [d1, d2, d3] => { results := [.lit (.bool false)], args := [d1, d2, d3] }
  | _ => none }
def FnExactNeedersOfWrongFalsely : Prop := fnExactNeedersOfRow.holds Tryz.pinned (OpenSpec.ofChange fnExactNeedersOfWrong)

/-- 'laws.FnExactOrphansOf': WHATEVER THE INPUT: true; the input reads as it did. -/
def fnExactOrphansOfSpec : ChangeSpec := { name := "fnExactOrphansOf", fn := fun _ => fun
  | [d1, d2, d3] => { results := [.lit (.bool true)], args := [d1, d2, d3] }
  | _ => none }
def fnExactOrphansOfRow : OpenClaim := { program := "ytdngjnjapihbkaagreat", sum := "a10abff8d9dfae8c6e368ede5d690eb6de1a380ce2270c0f642b1d3a6225e0d4", func := "loop.example/g00090/laws.FnExactOrphansOf", spec := "fnExactOrphansOf", unfollowed := true, recurses := true, apart := false }
def FnExactOrphansOfSaid : Prop := fnExactOrphansOfRow.holds Tryz.pinned (OpenSpec.ofChange fnExactOrphansOfSpec)

/-- ITS FALSE NEIGHBOUR: 'it returns false'. Refute it at one input. -/
def fnExactOrphansOfWrong : ChangeSpec := { name := "fnExactOrphansOf", fn := fun _ => fun
  | [d1, d2, d3] => { results := [.lit (.bool false)], args := [d1, d2, d3] }
  | _ => none }
def FnExactOrphansOfWrongFalsely : Prop := fnExactOrphansOfRow.holds Tryz.pinned (OpenSpec.ofChange fnExactOrphansOfWrong)

/-- 'laws.FnExactSpareOf': WHATEVER THE INPUT: true; the input reads as it did. -/
def fnExactSpareOfSpec : ChangeSpec := { name := "fnExactSpareOf", fn := fun _ => fun
  | [d1, d2, d3] => { results := [.lit (.bool true)], args := [d1, d2, d3] }
  | _ => none }
def fnExactSpareOfRow : OpenClaim := { program := "ytdngjnjapihbkaagreat", sum := "a10abff8d9dfae8c6e368ede5d690eb6de1a380ce2270c0f642b1d3a6225e0d4", func := "loop.example/g00090/laws.FnExactSpareOf", spec := "fnExactSpareOf", unfollowed := true, recurses := true, apart := false }
def FnExactSpareOfSaid : Prop := fnExactSpareOfRow.holds Tryz.pinned (OpenSpec.ofChange fnExactSpareOfSpec)

/-- ITS FALSE NEIGHBOUR: 'it returns false'. Refute it at one input. -/
def fnExactSpareOfWrong : ChangeSpec := { name := "fnExactSpareOf", fn := fun _ => fun
  | [d1, d2, d3] => { results := [.lit (.bool false)], args := [d1, d2, d3] }
  | _ => none }
def FnExactSpareOfWrongFalsely : Prop := fnExactSpareOfRow.holds Tryz.pinned (OpenSpec.ofChange fnExactSpareOfWrong)

/- THE SECOND FORM. 'bulk': how many values and letters a reading holds, each counted each time it is reached (what is shared counts as often as it is met; a slice's spare places count too). A statement '..UptoSaid' is the law's where the arguments, and the package variables that the reading takes, are together of bulk at most 1048576: NARROWER than '..Said'. Prove '..Said' where nothing that the law and all that it calls make is longer than what came in: it says more and counts as full. Else prove '..UptoSaid'. A law counts once. -/
mutual
def uptoBulk {H : Type} : DataW H → Nat
  | .lit (.string bytes) => bytes.length + 1
  | .lit _ => 1
  | .nil => 1
  | .ptr d => uptoBulk d + 1
  | .slice elems spare => uptoBulkAll elems + uptoBulkAll spare + 1
  | .agg parts => uptoBulkAll parts + 1
  | .iface _ d => uptoBulk d + 1
  | .map entries => uptoBulkEntries entries + 1
  | .held _ => 1
def uptoBulkAll {H : Type} : List (DataW H) → Nat
  | [] => 0
  | d :: r => uptoBulk d + uptoBulkAll r
def uptoBulkEntries {H : Type} : List (Lit × DataW H) → Nat
  | [] => 0
  | x :: r => uptoBulkEntry x + uptoBulkEntries r
def uptoBulkEntry {H : Type} : Lit × DataW H → Nat
  | (.string bytes, d) => bytes.length + uptoBulk d + 1
  | (_, d) => uptoBulk d + 1
 end
def uptoSmall : (H : Type) → List (DataW H) → Bool := fun _ ds => decide (uptoBulkAll ds ≤ 1048576)
def OpenSpec.upto (s : _root_.Go.ChangeSpec) : _root_.Go.OpenSpec := { _root_.Go.OpenSpec.ofChange s with cond := some uptoSmall }

/-- 'laws.FnExactNeedersOf', WHERE WHAT IT READS IS OF BULK AT MOST 1048576: true; the input reads as it did. -/
def fnExactNeedersOfUptoRow : OpenClaim := { program := "ytdngjnjapihbkaagreat", sum := "a10abff8d9dfae8c6e368ede5d690eb6de1a380ce2270c0f642b1d3a6225e0d4", func := "loop.example/g00090/laws.FnExactNeedersOf", spec := "fnExactNeedersOf", unfollowed := true, recurses := true, apart := false, narrowed := true }
def FnExactNeedersOfUptoSaid : Prop := fnExactNeedersOfUptoRow.holds Tryz.pinned (OpenSpec.upto fnExactNeedersOfSpec)

/-- 'laws.FnExactOrphansOf', WHERE WHAT IT READS IS OF BULK AT MOST 1048576: true; the input reads as it did. -/
def fnExactOrphansOfUptoRow : OpenClaim := { program := "ytdngjnjapihbkaagreat", sum := "a10abff8d9dfae8c6e368ede5d690eb6de1a380ce2270c0f642b1d3a6225e0d4", func := "loop.example/g00090/laws.FnExactOrphansOf", spec := "fnExactOrphansOf", unfollowed := true, recurses := true, apart := false, narrowed := true }
def FnExactOrphansOfUptoSaid : Prop := fnExactOrphansOfUptoRow.holds Tryz.pinned (OpenSpec.upto fnExactOrphansOfSpec)

/-- 'laws.FnExactSpareOf', WHERE WHAT IT READS IS OF BULK AT MOST 1048576: true; the input reads as it did. -/
def fnExactSpareOfUptoRow : OpenClaim := { program := "ytdngjnjapihbkaagreat", sum := "a10abff8d9dfae8c6e368ede5d690eb6de1a380ce2270c0f642b1d3a6225e0d4", func := "loop.example/g00090/laws.FnExactSpareOf", spec := "fnExactSpareOf", unfollowed := true, recurses := true, apart := false, narrowed := true }
def FnExactSpareOfUptoSaid : Prop := fnExactSpareOfUptoRow.holds Tryz.pinned (OpenSpec.upto fnExactSpareOfSpec)

end Rows
end Go.Proofs.YtdngjnjapihbkaaGreat
