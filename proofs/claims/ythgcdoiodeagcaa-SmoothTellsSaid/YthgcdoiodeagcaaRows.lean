/-
  No cell of these rows narrows 'for every input' (looked for: loops, veiled, ifaces, maps, wideKeys, modest, calm, conditions, laid).
  DERIVED. THE GIVEN ROWS OF THIS SEAT. 3 by the template 'for every input the law returns true; each argument reads behind the call as it read before'; 0 by the template 'total and deterministic' (their statements: YthgcdoiodeagcaaTotals.lean).
  GIVEN WITH THE SEED: the statements are not yours to turn. If you find one false, say at which input.
  Laid BY PROGRAM, IN A SANDBOX (cutbox-rows.mjs): the forced cells as the released guide's own fill.sh prints them over the translation af0b67791e4d0cbc… (all of the seat's roots in one cut). By AI agents, Wed Nov 11 2026. No macro, syntax, notation, axiom, sorry.
-/
import Derived.Test.YthgcdoiodeagcaaChecked
import GoSem.Claim
import GoSem.ClaimJoined
import GoSem.ClaimMapViews
import Derived.JoinedTies
import Derived.KernelRfl
namespace Go.Proofs.Ythgcdoiodeagcaa
/- THE CELL 'sum', in the pinned program and in every row, IS THE sha256 OF THE DUMP (.gsa) THAT YthgcdoiodeagcaaProg.lean LOADS. Nothing in Lean hashes anything: it is a label: what it is worth is what the hold of that sum in a sandbox is worth. -/
noncomputable def Try.pinned : Pinned := { name := "ythgcdoiodeagcaa", sum := "af0b67791e4d0cbcc84ad9cc23b326701aca0e24775c841dc0d0c1dab0435c8e", checked := Try.checked }
namespace Rows
def none {H : Type} : Left H := { results := [], args := [] }

/-- 'cloakroomlaw22.SmoothOrder': WHATEVER THE INPUT: true; the input reads as it did. -/
def smoothOrderSpec : ChangeSpec := { name := "smoothOrder", fn := fun _ => fun
  | [d1, d2, d3] => { results := [.lit (.bool true)], args := [d1, d2, d3] }
  | _ => none }
def smoothOrderRow : OpenClaim := { program := "ythgcdoiodeagcaa", sum := "af0b67791e4d0cbcc84ad9cc23b326701aca0e24775c841dc0d0c1dab0435c8e", func := "cloakroom/cloakroomlaw22.SmoothOrder", spec := "smoothOrder", inPlace := ["math.Float64bits", "math.Float64frombits"], apart := false }
def SmoothOrderSaid : Prop := smoothOrderRow.holds Try.pinned (OpenSpec.ofChange smoothOrderSpec)

/-- ITS FALSE NEIGHBOUR: 'it returns false'. Refute it at one input. -/
def smoothOrderWrong : ChangeSpec := { name := "smoothOrder", fn := fun _ => fun
  | [d1, d2, d3] => { results := [.lit (.bool false)], args := [d1, d2, d3] }
  | _ => none }
def SmoothOrderWrongFalsely : Prop := smoothOrderRow.holds Try.pinned (OpenSpec.ofChange smoothOrderWrong)

/-- 'cloakroomlaw22.SmoothClean': WHATEVER THE INPUT: true; the input reads as it did. -/
def smoothCleanSpec : ChangeSpec := { name := "smoothClean", fn := fun _ => fun
  | [d1, d2, d3] => { results := [.lit (.bool true)], args := [d1, d2, d3] }
  | _ => none }
def smoothCleanRow : OpenClaim := { program := "ythgcdoiodeagcaa", sum := "af0b67791e4d0cbcc84ad9cc23b326701aca0e24775c841dc0d0c1dab0435c8e", func := "cloakroom/cloakroomlaw22.SmoothClean", spec := "smoothClean", inPlace := ["math.Float64bits", "math.Float64frombits"], apart := false }
def SmoothCleanSaid : Prop := smoothCleanRow.holds Try.pinned (OpenSpec.ofChange smoothCleanSpec)

/-- ITS FALSE NEIGHBOUR: 'it returns false'. Refute it at one input. -/
def smoothCleanWrong : ChangeSpec := { name := "smoothClean", fn := fun _ => fun
  | [d1, d2, d3] => { results := [.lit (.bool false)], args := [d1, d2, d3] }
  | _ => none }
def SmoothCleanWrongFalsely : Prop := smoothCleanRow.holds Try.pinned (OpenSpec.ofChange smoothCleanWrong)

/-- 'cloakroomlaw22.SmoothTells': WHATEVER THE INPUT: true; the input reads as it did. -/
def smoothTellsSpec : ChangeSpec := { name := "smoothTells", fn := fun _ => fun
  | [d1, d2, d3, d4, d5, d6] => { results := [.lit (.bool true)], args := [d1, d2, d3, d4, d5, d6] }
  | _ => none }
def smoothTellsRow : OpenClaim := { program := "ythgcdoiodeagcaa", sum := "af0b67791e4d0cbcc84ad9cc23b326701aca0e24775c841dc0d0c1dab0435c8e", func := "cloakroom/cloakroomlaw22.SmoothTells", spec := "smoothTells", inPlace := ["math.Float64bits", "math.Float64frombits"], apart := false }
def SmoothTellsSaid : Prop := smoothTellsRow.holds Try.pinned (OpenSpec.ofChange smoothTellsSpec)

/-- ITS FALSE NEIGHBOUR: 'it returns false'. Refute it at one input. -/
def smoothTellsWrong : ChangeSpec := { name := "smoothTells", fn := fun _ => fun
  | [d1, d2, d3, d4, d5, d6] => { results := [.lit (.bool false)], args := [d1, d2, d3, d4, d5, d6] }
  | _ => none }
def SmoothTellsWrongFalsely : Prop := smoothTellsRow.holds Try.pinned (OpenSpec.ofChange smoothTellsWrong)

/- THE SECOND FORM. 'bulk': how many values and letters a reading holds, each counted each time it is reached (what is shared counts as often as it is met; a slice's spare places count too). A statement '..UptoSaid' is the law's where the arguments, and the package variables that the reading takes, are together of bulk at most 1048576: NARROWER than '..Said'. Prove '..Said' where nothing that the law and all that it calls make is longer than what came in: it says more and counts as full. Else prove '..UptoSaid'. A law counts once. -/
mutual
def uptoBulk {H : Type} : DataW H → Nat
  | .lit (.string bytes) => bytes.length + 1
  | .lit _ => 1
  | .nil => 1
  | .ptr d => uptoBulk d + 1
  | .slice elems spare => uptoBulkAll elems + uptoBulkAll spare + 1
  | .agg parts => uptoBulkAll parts + 1
  | .iface _ d => uptoBulk d + 1
  | .map entries => uptoBulkEntries entries + 1
  | .held _ => 1
def uptoBulkAll {H : Type} : List (DataW H) → Nat
  | [] => 0
  | d :: r => uptoBulk d + uptoBulkAll r
def uptoBulkEntries {H : Type} : List (Lit × DataW H) → Nat
  | [] => 0
  | x :: r => uptoBulkEntry x + uptoBulkEntries r
def uptoBulkEntry {H : Type} : Lit × DataW H → Nat
  | (.string bytes, d) => bytes.length + uptoBulk d + 1
  | (_, d) => uptoBulk d + 1
 end
def uptoSmall : (H : Type) → List (DataW H) → Bool := fun _ ds => decide (uptoBulkAll ds ≤ 1048576)
def OpenSpec.upto (s : _root_.Go.ChangeSpec) : _root_.Go.OpenSpec := { _root_.Go.OpenSpec.ofChange s with cond := some uptoSmall }

/-- 'cloakroomlaw22.SmoothOrder', WHERE WHAT IT READS IS OF BULK AT MOST 1048576: true; the input reads as it did. -/
def smoothOrderUptoRow : OpenClaim := { program := "ythgcdoiodeagcaa", sum := "af0b67791e4d0cbcc84ad9cc23b326701aca0e24775c841dc0d0c1dab0435c8e", func := "cloakroom/cloakroomlaw22.SmoothOrder", spec := "smoothOrder", inPlace := ["math.Float64bits", "math.Float64frombits"], apart := false, narrowed := true }
def SmoothOrderUptoSaid : Prop := smoothOrderUptoRow.holds Try.pinned (OpenSpec.upto smoothOrderSpec)

/-- 'cloakroomlaw22.SmoothClean', WHERE WHAT IT READS IS OF BULK AT MOST 1048576: true; the input reads as it did. -/
def smoothCleanUptoRow : OpenClaim := { program := "ythgcdoiodeagcaa", sum := "af0b67791e4d0cbcc84ad9cc23b326701aca0e24775c841dc0d0c1dab0435c8e", func := "cloakroom/cloakroomlaw22.SmoothClean", spec := "smoothClean", inPlace := ["math.Float64bits", "math.Float64frombits"], apart := false, narrowed := true }
def SmoothCleanUptoSaid : Prop := smoothCleanUptoRow.holds Try.pinned (OpenSpec.upto smoothCleanSpec)

/-- 'cloakroomlaw22.SmoothTells', WHERE WHAT IT READS IS OF BULK AT MOST 1048576: true; the input reads as it did. -/
def smoothTellsUptoRow : OpenClaim := { program := "ythgcdoiodeagcaa", sum := "af0b67791e4d0cbcc84ad9cc23b326701aca0e24775c841dc0d0c1dab0435c8e", func := "cloakroom/cloakroomlaw22.SmoothTells", spec := "smoothTells", inPlace := ["math.Float64bits", "math.Float64frombits"], apart := false, narrowed := true }
def SmoothTellsUptoSaid : Prop := smoothTellsUptoRow.holds Try.pinned (OpenSpec.upto smoothTellsSpec)

end Rows
end Go.Proofs.Ythgcdoiodeagcaa
