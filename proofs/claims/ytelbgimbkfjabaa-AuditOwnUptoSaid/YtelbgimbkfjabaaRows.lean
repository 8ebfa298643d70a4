/-
  No cell of these rows narrows 'for every input' (looked for: loops, veiled, ifaces, maps, wideKeys, modest, calm, conditions, laid).
  DERIVED. THE GIVEN ROWS OF THIS SEAT. 3 by the template 'for every input the law returns true; each argument reads behind the call as it read before'; 0 by the template 'total and deterministic' (their statements: YtelbgimbkfjabaaTotals.lean).
  GIVEN WITH THE SEED: the statements are not yours to turn. If you find one false, say at which input.
  Laid BY PROGRAM, IN A SANDBOX (cutbox-rows.mjs): the forced cells as the released guide's own fill.sh prints them over the translation bbf784b184c879a4… (all of the seat's roots in one cut). By AI agents, Wed Nov 11 2026. No macro, syntax, notation, axiom, sorry.
-/
import Derived.Test.YtelbgimbkfjabaaChecked
import GoSem.Claim
import GoSem.ClaimJoined
import GoSem.ClaimMapViews
import Derived.JoinedTies
import Derived.KernelRfl
namespace Go.Proofs.Ytelbgimbkfjabaa
/- THE CELL 'sum', in the pinned program and in every row, IS THE sha256 OF THE DUMP (.gsa) THAT YtelbgimbkfjabaaProg.lean LOADS. Nothing in Lean hashes anything: it is a label: what it is worth is what the hold of that sum in a sandbox is worth. -/
noncomputable def Try.pinned : Pinned := { name := "ytelbgimbkfjabaa", sum := "bbf784b184c879a4aafd939311282e2ed224f3cb319fd9268560fbbe43e114c7", checked := Try.checked }
namespace Rows
def none {H : Type} : Left H := { results := [], args := [] }

/-- 'orchardlaw26.AuditFlaws': WHATEVER THE INPUT: true; the input reads as it did. -/
def auditFlawsSpec : ChangeSpec := { name := "auditFlaws", fn := fun _ => fun
  | [d1, d2] => { results := [.lit (.bool true)], args := [d1, d2] }
  | _ => none }
def auditFlawsRow : OpenClaim := { program := "ytelbgimbkfjabaa", sum := "bbf784b184c879a4aafd939311282e2ed224f3cb319fd9268560fbbe43e114c7", func := "orchard/orchardlaw26.AuditFlaws", spec := "auditFlaws", unfollowed := true, recurses := true, apart := false }
def AuditFlawsSaid : Prop := auditFlawsRow.holds Try.pinned (OpenSpec.ofChange auditFlawsSpec)

/-- ITS FALSE NEIGHBOUR: 'it returns false'. Refute it at one input. -/
def auditFlawsWrong : ChangeSpec := { name := "auditFlaws", fn := fun _ => fun
  | [d1, d2] => { results := [.lit (.bool false)], args := [d1, d2] }
  | _ => none }
def AuditFlawsWrongFalsely : Prop := auditFlawsRow.holds Try.pinned (OpenSpec.ofChange auditFlawsWrong)

/-- 'orchardlaw26.AuditOwn': WHATEVER THE INPUT: true; the input reads as it did. -/
def auditOwnSpec : ChangeSpec := { name := "auditOwn", fn := fun _ => fun
  | [d1, d2] => { results := [.lit (.bool true)], args := [d1, d2] }
  | _ => none }
def auditOwnRow : OpenClaim := { program := "ytelbgimbkfjabaa", sum := "bbf784b184c879a4aafd939311282e2ed224f3cb319fd9268560fbbe43e114c7", func := "orchard/orchardlaw26.AuditOwn", spec := "auditOwn", unfollowed := true, recurses := true, apart := false }
def AuditOwnSaid : Prop := auditOwnRow.holds Try.pinned (OpenSpec.ofChange auditOwnSpec)

/-- ITS FALSE NEIGHBOUR: 'it returns false'. Refute it at one input. -/
def auditOwnWrong : ChangeSpec := { name := "auditOwn", fn := fun _ => fun
  | [d1, d2] => { results := [.lit (.bool false)], args := [d1, d2] }
  | _ => none }
def AuditOwnWrongFalsely : Prop := auditOwnRow.holds Try.pinned (OpenSpec.ofChange auditOwnWrong)

/-- 'orchardlaw26.AuditAsks': WHATEVER THE INPUT: true; the input reads as it did. -/
def auditAsksSpec : ChangeSpec := { name := "auditAsks", fn := fun _ => fun
  | [d1, d2, d3] => { results := [.lit (.bool true)], args := [d1, d2, d3] }
  | _ => none }
def auditAsksRow : OpenClaim := { program := "ytelbgimbkfjabaa", sum := "bbf784b184c879a4aafd939311282e2ed224f3cb319fd9268560fbbe43e114c7", func := "orchard/orchardlaw26.AuditAsks", spec := "auditAsks", unfollowed := true, recurses := true, apart := false }
def AuditAsksSaid : Prop := auditAsksRow.holds Try.pinned (OpenSpec.ofChange auditAsksSpec)

/-- ITS FALSE NEIGHBOUR: 'it returns false'. Refute it at one input. -/
def auditAsksWrong : ChangeSpec := { name := "auditAsks", fn := fun _ => fun
  | [d1, d2, d3] => { results := [.lit (.bool false)], args := [d1, d2, d3] }
  | _ => none }
def AuditAsksWrongFalsely : Prop := auditAsksRow.holds Try.pinned (OpenSpec.ofChange auditAsksWrong)

/- THE SECOND FORM. 'bulk': how many values and letters a reading holds, each counted each time it is reached (what is shared counts as often as it is met; a slice's spare places count too). A statement '..UptoSaid' is the law's where the arguments, and the package variables that the reading takes, are together of bulk at most 1048576: NARROWER than '..Said'. Prove '..Said' where nothing that the law and all that it calls make is longer than what came in: it says more and counts as full. Else prove '..UptoSaid'. A law counts once. -/
mutual
def uptoBulk {H : Type} : DataW H → Nat
  | .lit (.string bytes) => bytes.length + 1
  | .lit _ => 1
  | .nil => 1
  | .ptr d => uptoBulk d + 1
  | .slice elems spare => uptoBulkAll elems + uptoBulkAll spare + 1
  | .agg parts => uptoBulkAll parts + 1
  | .iface _ d => uptoBulk d + 1
  | .map entries => uptoBulkEntries entries + 1
  | .held _ => 1
def uptoBulkAll {H : Type} : List (DataW H) → Nat
  | [] => 0
  | d :: r => uptoBulk d + uptoBulkAll r
def uptoBulkEntries {H : Type} : List (Lit × DataW H) → Nat
  | [] => 0
  | x :: r => uptoBulkEntry x + uptoBulkEntries r
def uptoBulkEntry {H : Type} : Lit × DataW H → Nat
  | (.string bytes, d) => bytes.length + uptoBulk d + 1
  | (_, d) => uptoBulk d + 1
 end
def uptoSmall : (H : Type) → List (DataW H) → Bool := fun _ ds => decide (uptoBulkAll ds ≤ 1048576)
def OpenSpec.upto (s : _root_.Go.ChangeSpec) : _root_.Go.OpenSpec := { _root_.Go.OpenSpec.ofChange s with cond := some uptoSmall }

/-- 'orchardlaw26.AuditFlaws', WHERE WHAT IT READS IS OF BULK AT MOST 1048576: true; the input reads as it did. -/
def auditFlawsUptoRow : OpenClaim := { program := "ytelbgimbkfjabaa", sum := "bbf784b184c879a4aafd939311282e2ed224f3cb319fd9268560fbbe43e114c7", func := "orchard/orchardlaw26.AuditFlaws", spec := "auditFlaws", unfollowed := true, recurses := true, apart := false, narrowed := true }
def AuditFlawsUptoSaid : Prop := auditFlawsUptoRow.holds Try.pinned (OpenSpec.upto auditFlawsSpec)

/-- 'orchardlaw26.AuditOwn', WHERE WHAT IT READS IS OF BULK AT MOST 1048576: true; the input reads as it did. -/
def auditOwnUptoRow : OpenClaim := { program := "ytelbgimbkfjabaa", sum := "bbf784b184c879a4aafd939311282e2ed224f3cb319fd9268560fbbe43e114c7", func := "orchard/orchardlaw26.AuditOwn", spec := "auditOwn", unfollowed := true, recurses := true, apart := false, narrowed := true }
def AuditOwnUptoSaid : Prop := auditOwnUptoRow.holds Try.pinned (OpenSpec.upto auditOwnSpec)

/-- 'orchardlaw26.AuditAsks', WHERE WHAT IT READS IS OF BULK AT MOST 1048576: true; the input reads as it did. -/
def auditAsksUptoRow : OpenClaim := { program := "ytelbgimbkfjabaa", sum := "bbf784b184c879a4aafd939311282e2ed224f3cb319fd9268560fbbe43e114c7", func := "orchard/orchardlaw26.AuditAsks", spec := "auditAsks", unfollowed := true, recurses := true, apart := false, narrowed := true }
def AuditAsksUptoSaid : Prop := auditAsksUptoRow.holds Try.pinned (OpenSpec.upto auditAsksSpec)

end Rows
end Go.Proofs.Ytelbgimbkfjabaa
