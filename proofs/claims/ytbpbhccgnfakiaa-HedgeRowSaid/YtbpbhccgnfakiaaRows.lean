/-
  No cell of these rows narrows 'for every input' (looked for: loops, veiled, ifaces, maps, wideKeys, modest, calm, conditions, laid).
  DERIVED. THE GIVEN ROWS OF THIS SEAT. 3 by the template 'for every input the law returns true; each argument reads behind the call as it read before'; 0 by the template 'total and deterministic' (their statements: YtbpbhccgnfakiaaTotals.lean).
  GIVEN WITH THE SEED: the statements are not yours to turn. If you find one false, say at which input.
  Laid BY PROGRAM, IN A SANDBOX (cutbox-rows.mjs): the forced cells as the released guide's own fill.sh prints them over the translation c26af6efab14dbcb… (all of the seat's roots in one cut). By AI agents, Wed Nov 11 2026. No macro, syntax, notation, axiom, sorry.
-/
import Derived.Test.YtbpbhccgnfakiaaChecked
import GoSem.Claim
import GoSem.ClaimJoined
import GoSem.ClaimMapViews
import Derived.JoinedTies
import Derived.KernelRfl
namespace Go.Proofs.Ytbpbhccgnfakiaa
/- THE CELL 'sum', in the pinned program and in every row, IS THE sha256 OF THE DUMP (.gsa) THAT YtbpbhccgnfakiaaProg.lean LOADS. Nothing in Lean hashes anything: it is a label: what it is worth is what the hold of that sum in a sandbox is worth. -/
noncomputable def Try.pinned : Pinned := { name := "ytbpbhccgnfakiaa", sum := "c26af6efab14dbcbc822bd2773c06369646d2e8d601a70cf246822be1d7c50cb", checked := Try.checked }
namespace Rows
def none {H : Type} : Left H := { results := [], args := [] }

/-- 'hustingslaw22.HedgeGone': WHATEVER THE INPUT: true; the input reads as it did. -/
def hedgeGoneSpec : ChangeSpec := { name := "hedgeGone", fn := fun _ => fun
  | [d] => { results := [.lit (.bool true)], args := [d] }
  | _ => none }
def hedgeGoneRow : OpenClaim := { program := "ytbpbhccgnfakiaa", sum := "c26af6efab14dbcbc822bd2773c06369646d2e8d601a70cf246822be1d7c50cb", func := "hustings/hustingslaw22.HedgeGone", spec := "hedgeGone", apart := false }
def HedgeGoneSaid : Prop := hedgeGoneRow.holds Try.pinned (OpenSpec.ofChange hedgeGoneSpec)

/-- ITS FALSE NEIGHBOUR: 'it returns false'. Refute it at one input. -/
def hedgeGoneWrong : ChangeSpec := { name := "hedgeGone", fn := fun _ => fun
  | [d] => { results := [.lit (.bool false)], args := [d] }
  | _ => none }
def HedgeGoneWrongFalsely : Prop := hedgeGoneRow.holds Try.pinned (OpenSpec.ofChange hedgeGoneWrong)

/-- 'hustingslaw22.HedgeRow': WHATEVER THE INPUT: true; the input reads as it did. -/
def hedgeRowSpec : ChangeSpec := { name := "hedgeRow", fn := fun _ => fun
  | [d1, d2] => { results := [.lit (.bool true)], args := [d1, d2] }
  | _ => none }
def hedgeRowRow : OpenClaim := { program := "ytbpbhccgnfakiaa", sum := "c26af6efab14dbcbc822bd2773c06369646d2e8d601a70cf246822be1d7c50cb", func := "hustings/hustingslaw22.HedgeRow", spec := "hedgeRow", unfollowed := true, recurses := true, apart := false }
def HedgeRowSaid : Prop := hedgeRowRow.holds Try.pinned (OpenSpec.ofChange hedgeRowSpec)

/-- ITS FALSE NEIGHBOUR: 'it returns false'. Refute it at one input. -/
def hedgeRowWrong : ChangeSpec := { name := "hedgeRow", fn := fun _ => fun
  | [d1, d2] => { results := [.lit (.bool false)], args := [d1, d2] }
  | _ => none }
def HedgeRowWrongFalsely : Prop := hedgeRowRow.holds Try.pinned (OpenSpec.ofChange hedgeRowWrong)

/-- 'hustingslaw22.HedgeApart': WHATEVER THE INPUT: true; the input reads as it did. -/
def hedgeApartSpec : ChangeSpec := { name := "hedgeApart", fn := fun _ => fun
  | [d1, d2, d3] => { results := [.lit (.bool true)], args := [d1, d2, d3] }
  | _ => none }
def hedgeApartRow : OpenClaim := { program := "ytbpbhccgnfakiaa", sum := "c26af6efab14dbcbc822bd2773c06369646d2e8d601a70cf246822be1d7c50cb", func := "hustings/hustingslaw22.HedgeApart", spec := "hedgeApart", apart := false }
def HedgeApartSaid : Prop := hedgeApartRow.holds Try.pinned (OpenSpec.ofChange hedgeApartSpec)

/-- ITS FALSE NEIGHBOUR: 'it returns false'. Refute it at one input. -/
def hedgeApartWrong : ChangeSpec := { name := "hedgeApart", fn := fun _ => fun
  | [d1, d2, d3] => { results := [.lit (.bool false)], args := [d1, d2, d3] }
  | _ => none }
def HedgeApartWrongFalsely : Prop := hedgeApartRow.holds Try.pinned (OpenSpec.ofChange hedgeApartWrong)

/- THE SECOND FORM. 'bulk': how many values and letters a reading holds, each counted each time it is reached (what is shared counts as often as it is met; a slice's spare places count too). A statement '..UptoSaid' is the law's where the arguments, and the package variables that the reading takes, are together of bulk at most 1048576: NARROWER than '..Said'. Prove '..Said' where nothing that the law and all that it calls make is longer than what came in: it says more and counts as full. Else prove '..UptoSaid'. A law counts once. -/
mutual
def uptoBulk {H : Type} : DataW H → Nat
  | .lit (.string bytes) => bytes.length + 1
  | .lit _ => 1
  | .nil => 1
  | .ptr d => uptoBulk d + 1
  | .slice elems spare => uptoBulkAll elems + uptoBulkAll spare + 1
  | .agg parts => uptoBulkAll parts + 1
  | .iface _ d => uptoBulk d + 1
  | .map entries => uptoBulkEntries entries + 1
  | .held _ => 1
def uptoBulkAll {H : Type} : List (DataW H) → Nat
  | [] => 0
  | d :: r => uptoBulk d + uptoBulkAll r
def uptoBulkEntries {H : Type} : List (Lit × DataW H) → Nat
  | [] => 0
  | x :: r => uptoBulkEntry x + uptoBulkEntries r
def uptoBulkEntry {H : Type} : Lit × DataW H → Nat
  | (.string bytes, d) => bytes.length + uptoBulk d + 1
  | (_, d) => uptoBulk d + 1
 end
def uptoSmall : (H : Type) → List (DataW H) → Bool := fun _ ds => decide (uptoBulkAll ds ≤ 1048576)
def OpenSpec.upto (s : _root_.Go.ChangeSpec) : _root_.Go.OpenSpec := { _root_.Go.OpenSpec.ofChange s with cond := some uptoSmall }

/-- 'hustingslaw22.HedgeGone', WHERE WHAT IT READS IS OF BULK AT MOST 1048576: true; the input reads as it did. -/
def hedgeGoneUptoRow : OpenClaim := { program := "ytbpbhccgnfakiaa", sum := "c26af6efab14dbcbc822bd2773c06369646d2e8d601a70cf246822be1d7c50cb", func := "hustings/hustingslaw22.HedgeGone", spec := "hedgeGone", apart := false, narrowed := true }
def HedgeGoneUptoSaid : Prop := hedgeGoneUptoRow.holds Try.pinned (OpenSpec.upto hedgeGoneSpec)

/-- 'hustingslaw22.HedgeRow', WHERE WHAT IT READS IS OF BULK AT MOST 1048576: true; the input reads as it did. -/
def hedgeRowUptoRow : OpenClaim := { program := "ytbpbhccgnfakiaa", sum := "c26af6efab14dbcbc822bd2773c06369646d2e8d601a70cf246822be1d7c50cb", func := "hustings/hustingslaw22.HedgeRow", spec := "hedgeRow", unfollowed := true, recurses := true, apart := false, narrowed := true }
def HedgeRowUptoSaid : Prop := hedgeRowUptoRow.holds Try.pinned (OpenSpec.upto hedgeRowSpec)

/-- 'hustingslaw22.HedgeApart', WHERE WHAT IT READS IS OF BULK AT MOST 1048576: true; the input reads as it did. -/
def hedgeApartUptoRow : OpenClaim := { program := "ytbpbhccgnfakiaa", sum := "c26af6efab14dbcbc822bd2773c06369646d2e8d601a70cf246822be1d7c50cb", func := "hustings/hustingslaw22.HedgeApart", spec := "hedgeApart", apart := false, narrowed := true }
def HedgeApartUptoSaid : Prop := hedgeApartUptoRow.holds Try.pinned (OpenSpec.upto hedgeApartSpec)

end Rows
end Go.Proofs.Ytbpbhccgnfakiaa
