/-
  No cell of these rows narrows 'for every input' (looked for: loops, veiled, ifaces, maps, wideKeys, modest, calm, conditions, laid).
  DERIVED. THE GIVEN ROWS OF THIS SEAT. 3 by the template 'for every input the law returns true; each argument reads behind the call as it read before'; 0 by the template 'total and deterministic' (their statements: YtomfmdfamlmfiaaGreatTotals.lean).
  GIVEN WITH THE SEED: the statements are not yours to turn. If you find one false, say at which input.
  Laid BY PROGRAM, IN A SANDBOX (cutbox-rows.mjs): the forced cells as the released guide's own fill.sh prints them over the translation 310cc564ee2c1014… (all of the seat's roots in one cut). By AI agents, Wed Nov 11 2026. No macro, syntax, notation, axiom, sorry.
-/
import Derived.Test.YtomfmdfamlmfiaaGreatChecked
import GoSem.Claim
import GoSem.ClaimJoined
import GoSem.ClaimMapViews
import Derived.JoinedTies
import Derived.KernelRfl
namespace Go.Proofs.YtomfmdfamlmfiaaGreat
/- THE CELL 'sum', in the pinned program and in every row, IS THE sha256 OF THE DUMP (.gsa) THAT YtomfmdfamlmfiaaGreatProg.lean LOADS. Nothing in Lean hashes anything: it is a label: what it is worth is what the hold of that sum in a sandbox is worth. -/
noncomputable def Tryz.pinned : Pinned := { name := "ytomfmdfamlmfiaagreat", sum := "310cc564ee2c10146a9d77256fa565294afc882f1886e5e78655950fbeccaa4a", checked := Tryz.checked }
namespace Rows
def none {H : Type} : Left H := { results := [], args := [] }

/-- 'laws.FnExactOrphansOf': WHATEVER THE INPUT: true; the input reads as it did. -/
def fnExactOrphansOfSpec : ChangeSpec := { name := "fnExactOrphansOf", fn := fun _ => fun
  | [d1, d2, d3] => { results := [.lit (.bool true)], args := [d1, d2, d3] }
  | _ => none }
def fnExactOrphansOfRow : OpenClaim := { program := "ytomfmdfamlmfiaagreat", sum := "310cc564ee2c10146a9d77256fa565294afc882f1886e5e78655950fbeccaa4a", func := "loop.example/g00090/laws.FnExactOrphansOf", spec := "fnExactOrphansOf", unfollowed := true, recurses := true, apart := false }
def FnExactOrphansOfSaid : Prop := fnExactOrphansOfRow.holds Tryz.pinned (OpenSpec.ofChange fnExactOrphansOfSpec)

/-- ITS FALSE NEIGHBOUR: 'it returns false'. Refute it at one input. -/
def fnExactOrphansOfWrong : ChangeSpec := { name := "fnExactOrphansOf", fn := fun _ => fun
  | [d1, d2, d3] => { results := [.lit (.bool false)], args := [d1, d2, d3] }
  | _ => none }
def FnExactOrphansOfWrongFalsely : Prop := fnExactOrphansOfRow.holds Tryz.pinned (OpenSpec.ofChange fnExactOrphansOfWrong)

/-- 'laws.FnExactWhyOf': WHATEVER THE INPUT: true; the input reads as it did. -/
def fnExactWhyOfSpec : ChangeSpec := { name := "fnExactWhyOf", fn := fun _ => fun
  | [d1, d2, d3, d4] => { results := [.lit (.bool true)], args := [d1, d2, d3, d4] }
  | _ => none }
def fnExactWhyOfRow : OpenClaim := { program := "ytomfmdfamlmfiaagreat", sum := "310cc564ee2c10146a9d77256fa565294afc882f1886e5e78655950fbeccaa4a", func := "loop.example/g00090/laws.FnExactWhyOf", spec := "fnExactWhyOf", unfollowed := true, recurses := true, apart := false }
def FnExactWhyOfSaid : Prop := fnExactWhyOfRow.holds Tryz.pinned (OpenSpec.ofChange fnExactWhyOfSpec)

/-- ITS FALSE NEIGHBOUR: 'it returns false'. Refute it at one input. -/
def fnExactWhyOfWrong : ChangeSpec := { name := "fnExactWhyOf", fn := fun _ => fun
  | [d1, d2, d3, d4] => { results := [.lit (.bool false)], args := [d1, d2, d3, d4] }
  | _ => none }
def FnExactWhyOfWrongFalsely : Prop := fnExactWhyOfRow.holds Tryz.pinned (OpenSpec.ofChange fnExactWhyOfWrong)

/-- 'laws.FnWhys': WHATEVER THE INPUT: true; the input reads as it did. -/
def fnWhysSpec : ChangeSpec := { name := "fnWhys", fn := fun _ => fun
  | [d] => { results := [.lit (.bool true)], args := [d] }
  | _ => none }
def fnWhysRow : OpenClaim := { program := "ytomfmdfamlmfiaagreat", sum := "310cc564ee2c10146a9d77256fa565294afc882f1886e5e78655950fbeccaa4a", func := "loop.example/g00090/laws.FnWhys", spec := "fnWhys", unfollowed := true, recurses := true, apart := false }
def FnWhysSaid : Prop := fnWhysRow.holds Tryz.pinned (OpenSpec.ofChange fnWhysSpec)

/-- ITS FALSE NEIGHBOUR: 'it returns false'. Refute it at one input. -/
def fnWhysWrong : ChangeSpec := { name := "fnWhys", fn := fun _ => fun
  | [d] => { results := [.lit (.bool false)], args := [d] }
  | _ => none }
def FnWhysWrongFalsely : Prop := fnWhysRow.holds Tryz.pinned (OpenSpec.ofChange fnWhysWrong)

/- THE SECOND FORM. 'bulk': how many values and letters a reading holds, each counted each time it is reached (what is shared counts as often as it is met; a slice's spare places count too). A statement '..UptoSaid' is the law's where the arguments, and the package variables that the reading takes, are together of bulk at most 1048576: NARROWER than '..Said'. Prove '..Said' where nothing that the law and all that it calls make is longer than what came in: it says more and counts as full. Else prove '..UptoSaid'. A law counts once. -/
mutual
def uptoBulk {H : Type} : DataW H → Nat
  | .lit (.string bytes) => bytes.length + 1
  | .lit _ => 1
  | .nil => 1
  | .ptr d => uptoBulk d + 1
  | .slice elems spare => uptoBulkAll elems + uptoBulkAll spare + 1
  | .agg parts => uptoBulkAll parts + 1
  | .iface _ d => uptoBulk d + 1
  | .map entries => uptoBulkEntries entries + 1
  | .held _ => 1
def uptoBulkAll {H : Type} : List (DataW H) → Nat
  | [] => 0
  | d :: r => uptoBulk d + uptoBulkAll r
def uptoBulkEntries {H : Type} : List (Lit × DataW H) → Nat
  | [] => 0
  | x :: r => uptoBulkEntry x + uptoBulkEntries r
def uptoBulkEntry {H : Type} : Lit × DataW H → Nat
  | (.string bytes, d) => bytes.length + uptoBulk d + 1
  | (_, d) => uptoBulk d + 1
 end
def uptoSmall : (H : Type) → List (DataW H) → Bool := fun _ ds => decide (uptoBulkAll ds ≤ 1048576)
def OpenSpec.upto (s : _root_.Go.ChangeSpec) : _root_.Go.OpenSpec := { _root_.Go.OpenSpec.ofChange s with cond := some uptoSmall }

/-- 'laws.FnExactOrphansOf', WHERE WHAT IT READS IS OF BULK AT MOST 1048576: true; the input reads as it did. -/
def fnExactOrphansOfUptoRow : OpenClaim := { program := "ytomfmdfamlmfiaagreat", sum := "310cc564ee2c10146a9d77256fa565294afc882f1886e5e78655950fbeccaa4a", func := "loop.example/g00090/laws.FnExactOrphansOf", spec := "fnExactOrphansOf", unfollowed := true, recurses := true, apart := false, narrowed := true }
def FnExactOrphansOfUptoSaid : Prop := fnExactOrphansOfUptoRow.holds Tryz.pinned (OpenSpec.upto fnExactOrphansOfSpec)

/-- 'laws.FnExactWhyOf', WHERE WHAT IT READS IS OF BULK AT MOST 1048576: true; the input reads as it did. -/
def fnExactWhyOfUptoRow : OpenClaim := { program := "ytomfmdfamlmfiaagreat", sum := "310cc564ee2c10146a9d77256fa565294afc882f1886e5e78655950fbeccaa4a", func := "loop.example/g00090/laws.FnExactWhyOf", spec := "fnExactWhyOf", unfollowed := true, recurses := true, apart := false, narrowed := true }
def FnExactWhyOfUptoSaid : Prop := fnExactWhyOfUptoRow.holds Tryz.pinned (OpenSpec.upto fnExactWhyOfSpec)

/-- 'laws.FnWhys', WHERE WHAT IT READS IS OF BULK AT MOST 1048576: true; the input reads as it did. -/
def fnWhysUptoRow : OpenClaim := { program := "ytomfmdfamlmfiaagreat", sum := "310cc564ee2c10146a9d77256fa565294afc882f1886e5e78655950fbeccaa4a", func := "loop.example/g00090/laws.FnWhys", spec := "fnWhys", unfollowed := true, recurses := true, apart := false, narrowed := true }
def FnWhysUptoSaid : Prop := fnWhysUptoRow.holds Tryz.pinned (OpenSpec.upto fnWhysSpec)

end Rows
end Go.Proofs.YtomfmdfamlmfiaaGreat
