/-
  No cell of these rows narrows 'for every input' (looked for: loops, veiled, ifaces, maps, wideKeys, modest, calm, conditions, laid).
  DERIVED. THE GIVEN ROWS OF THIS SEAT. 2 by the template 'for every input the law returns true; each argument reads behind the call as it read before'; 0 by the template 'total and deterministic' (their statements: YthcmhegbmpnepaaTotals.lean).
  GIVEN WITH THE SEED: the statements are not yours to turn. If you find one false, say at which input.
  Laid BY PROGRAM, IN A SANDBOX (cutbox-rows.mjs): the forced cells as the released guide's own fill.sh prints them over the translation 399e11c62d82a989… (all of the seat's roots in one cut). By AI agents, Wed Nov 11 2026. No macro, syntax, notation, axiom, sorry.
-/
import Derived.Test.YthcmhegbmpnepaaChecked
import GoSem.Claim
import GoSem.ClaimJoined
import GoSem.ClaimMapViews
import Derived.JoinedTies
import Derived.KernelRfl
namespace Go.Proofs.Ythcmhegbmpnepaa
/- THE CELL 'sum', in the pinned program and in every row, IS THE sha256 OF THE DUMP (.gsa) THAT YthcmhegbmpnepaaProg.lean LOADS. Nothing in Lean hashes anything: it is a label: what it is worth is what the hold of that sum in a sandbox is worth. -/
noncomputable def Try.pinned : Pinned := { name := "ythcmhegbmpnepaa", sum := "399e11c62d82a989cf4532ef49518eb88ec679ffb371d1bbd6c99840fb1e305c", checked := Try.checked }
namespace Rows
def none {H : Type} : Left H := { results := [], args := [] }

/-- 'cloakroomlaw24.EligibleSpans': WHATEVER THE INPUT: true; the input reads as it did. -/
def eligibleSpansSpec : ChangeSpec := { name := "eligibleSpans", fn := fun _ => fun
  | [d] => { results := [.lit (.bool true)], args := [d] }
  | _ => none }
def eligibleSpansRow : OpenClaim := { program := "ythcmhegbmpnepaa", sum := "399e11c62d82a989cf4532ef49518eb88ec679ffb371d1bbd6c99840fb1e305c", func := "cloakroom/cloakroomlaw24.EligibleSpans", spec := "eligibleSpans", unfollowed := true, recurses := true, apart := false }
def EligibleSpansSaid : Prop := eligibleSpansRow.holds Try.pinned (OpenSpec.ofChange eligibleSpansSpec)

/-- ITS FALSE NEIGHBOUR: 'it returns false'. Refute it at one input. -/
def eligibleSpansWrong : ChangeSpec := { name := "eligibleSpans", fn := fun _ => fun
  | [d] => { results := [.lit (.bool false)], args := [d] }
  | _ => none }
def EligibleSpansWrongFalsely : Prop := eligibleSpansRow.holds Try.pinned (OpenSpec.ofChange eligibleSpansWrong)

/-- 'cloakroomlaw24.EligibleTells': WHATEVER THE INPUT: true; the input reads as it did. -/
def eligibleTellsSpec : ChangeSpec := { name := "eligibleTells", fn := fun _ => fun
  | [d1, d2, d3, d4, d5] => { results := [.lit (.bool true)], args := [d1, d2, d3, d4, d5] }
  | _ => none }
def eligibleTellsRow : OpenClaim := { program := "ythcmhegbmpnepaa", sum := "399e11c62d82a989cf4532ef49518eb88ec679ffb371d1bbd6c99840fb1e305c", func := "cloakroom/cloakroomlaw24.EligibleTells", spec := "eligibleTells", unfollowed := true, recurses := true, apart := false }
def EligibleTellsSaid : Prop := eligibleTellsRow.holds Try.pinned (OpenSpec.ofChange eligibleTellsSpec)

/-- ITS FALSE NEIGHBOUR: 'it returns false'. Refute it at one input. -/
def eligibleTellsWrong : ChangeSpec := { name := "eligibleTells", fn := fun _ => fun
  | [d1, d2, d3, d4, d5] => { results := [.lit (.bool false)], args := [d1, d2, d3, d4, d5] }
  | _ => none }
def EligibleTellsWrongFalsely : Prop := eligibleTellsRow.holds Try.pinned (OpenSpec.ofChange eligibleTellsWrong)

/- THE SECOND FORM. 'bulk': how many values and letters a reading holds, each counted each time it is reached (what is shared counts as often as it is met; a slice's spare places count too). A statement '..UptoSaid' is the law's where the arguments, and the package variables that the reading takes, are together of bulk at most 1048576: NARROWER than '..Said'. Prove '..Said' where nothing that the law and all that it calls make is longer than what came in: it says more and counts as full. Else prove '..UptoSaid'. A law counts once. -/
mutual
def uptoBulk {H : Type} : DataW H → Nat
  | .lit (.string bytes) => bytes.length + 1
  | .lit _ => 1
  | .nil => 1
  | .ptr d => uptoBulk d + 1
  | .slice elems spare => uptoBulkAll elems + uptoBulkAll spare + 1
  | .agg parts => uptoBulkAll parts + 1
  | .iface _ d => uptoBulk d + 1
  | .map entries => uptoBulkEntries entries + 1
  | .held _ => 1
def uptoBulkAll {H : Type} : List (DataW H) → Nat
  | [] => 0
  | d :: r => uptoBulk d + uptoBulkAll r
def uptoBulkEntries {H : Type} : List (Lit × DataW H) → Nat
  | [] => 0
  | x :: r => uptoBulkEntry x + uptoBulkEntries r
def uptoBulkEntry {H : Type} : Lit × DataW H → Nat
  | (.string bytes, d) => bytes.length + uptoBulk d + 1
  | (_, d) => uptoBulk d + 1
 end
def uptoSmall : (H : Type) → List (DataW H) → Bool := fun _ ds => decide (uptoBulkAll ds ≤ 1048576)
def OpenSpec.upto (s : _root_.Go.ChangeSpec) : _root_.Go.OpenSpec := { _root_.Go.OpenSpec.ofChange s with cond := some uptoSmall }

/-- 'cloakroomlaw24.EligibleSpans', WHERE WHAT IT READS IS OF BULK AT MOST 1048576: true; the input reads as it did. -/
def eligibleSpansUptoRow : OpenClaim := { program := "ythcmhegbmpnepaa", sum := "399e11c62d82a989cf4532ef49518eb88ec679ffb371d1bbd6c99840fb1e305c", func := "cloakroom/cloakroomlaw24.EligibleSpans", spec := "eligibleSpans", unfollowed := true, recurses := true, apart := false, narrowed := true }
def EligibleSpansUptoSaid : Prop := eligibleSpansUptoRow.holds Try.pinned (OpenSpec.upto eligibleSpansSpec)

/-- 'cloakroomlaw24.EligibleTells', WHERE WHAT IT READS IS OF BULK AT MOST 1048576: true; the input reads as it did. -/
def eligibleTellsUptoRow : OpenClaim := { program := "ythcmhegbmpnepaa", sum := "399e11c62d82a989cf4532ef49518eb88ec679ffb371d1bbd6c99840fb1e305c", func := "cloakroom/cloakroomlaw24.EligibleTells", spec := "eligibleTells", unfollowed := true, recurses := true, apart := false, narrowed := true }
def EligibleTellsUptoSaid : Prop := eligibleTellsUptoRow.holds Try.pinned (OpenSpec.upto eligibleTellsSpec)

end Rows
end Go.Proofs.Ythcmhegbmpnepaa
