/-
  No cell of these rows narrows 'for every input' (looked for: loops, veiled, ifaces, maps, wideKeys, modest, calm, conditions, laid).
  DERIVED. THE GIVEN ROWS OF THIS SEAT. 6 by the template 'for every input the law returns true; each argument reads behind the call as it read before'; 0 by the template 'total and deterministic' (their statements: YthmajhdemooecaaTotals.lean).
  GIVEN WITH THE SEED: the statements are not yours to turn. If you find one false, say at which input.
  Laid BY PROGRAM, IN A SANDBOX (cutbox-rows.mjs): the forced cells as the released guide's own fill.sh prints them over the translation acc5813fffa34035… (all of the seat's roots in one cut). By AI agents, Wed Nov 11 2026. No macro, syntax, notation, axiom, sorry.
-/
import Derived.Test.YthmajhdemooecaaChecked
import GoSem.Claim
import GoSem.ClaimJoined
import GoSem.ClaimMapViews
import Derived.JoinedTies
import Derived.KernelRfl
namespace Go.Proofs.Ythmajhdemooecaa
/- THE CELL 'sum', in the pinned program and in every row, IS THE sha256 OF THE DUMP (.gsa) THAT YthmajhdemooecaaProg.lean LOADS. Nothing in Lean hashes anything: it is a label: what it is worth is what the hold of that sum in a sandbox is worth. -/
noncomputable def Try.pinned : Pinned := { name := "ythmajhdemooecaa", sum := "acc5813fffa34035d93c8bb28578d8f2a5c37084cf3f881bbdcf9bc519e225c6", checked := Try.checked }
namespace Rows
def none {H : Type} : Left H := { results := [], args := [] }

/-- 'proctorlaw20.InboxOpen': WHATEVER THE INPUT: true; the input reads as it did. -/
def inboxOpenSpec : ChangeSpec := { name := "inboxOpen", fn := fun _ => fun
  | [d1, d2, d3] => { results := [.lit (.bool true)], args := [d1, d2, d3] }
  | _ => none }
def inboxOpenRow : OpenClaim := { program := "ythmajhdemooecaa", sum := "acc5813fffa34035d93c8bb28578d8f2a5c37084cf3f881bbdcf9bc519e225c6", func := "proctor/proctorlaw20.InboxOpen", spec := "inboxOpen", unfollowed := true, recurses := true, apart := false }
def InboxOpenSaid : Prop := inboxOpenRow.holds Try.pinned (OpenSpec.ofChange inboxOpenSpec)

/-- ITS FALSE NEIGHBOUR: 'it returns false'. Refute it at one input. -/
def inboxOpenWrong : ChangeSpec := { name := "inboxOpen", fn := fun _ => fun
  | [d1, d2, d3] => { results := [.lit (.bool false)], args := [d1, d2, d3] }
  | _ => none }
def InboxOpenWrongFalsely : Prop := inboxOpenRow.holds Try.pinned (OpenSpec.ofChange inboxOpenWrong)

/-- 'proctorlaw20.InboxDeposits': WHATEVER THE INPUT: true; the input reads as it did. -/
def inboxDepositsSpec : ChangeSpec := { name := "inboxDeposits", fn := fun _ => fun
  | [d1, d2, d3] => { results := [.lit (.bool true)], args := [d1, d2, d3] }
  | _ => none }
def inboxDepositsRow : OpenClaim := { program := "ythmajhdemooecaa", sum := "acc5813fffa34035d93c8bb28578d8f2a5c37084cf3f881bbdcf9bc519e225c6", func := "proctor/proctorlaw20.InboxDeposits", spec := "inboxDeposits", unfollowed := true, recurses := true, apart := false }
def InboxDepositsSaid : Prop := inboxDepositsRow.holds Try.pinned (OpenSpec.ofChange inboxDepositsSpec)

/-- ITS FALSE NEIGHBOUR: 'it returns false'. Refute it at one input. -/
def inboxDepositsWrong : ChangeSpec := { name := "inboxDeposits", fn := fun _ => fun
  | [d1, d2, d3] => { results := [.lit (.bool false)], args := [d1, d2, d3] }
  | _ => none }
def InboxDepositsWrongFalsely : Prop := inboxDepositsRow.holds Try.pinned (OpenSpec.ofChange inboxDepositsWrong)

/-- 'proctorlaw20.InboxFresh': WHATEVER THE INPUT: true; the input reads as it did. -/
def inboxFreshSpec : ChangeSpec := { name := "inboxFresh", fn := fun _ => fun
  | [d1, d2] => { results := [.lit (.bool true)], args := [d1, d2] }
  | _ => none }
def inboxFreshRow : OpenClaim := { program := "ythmajhdemooecaa", sum := "acc5813fffa34035d93c8bb28578d8f2a5c37084cf3f881bbdcf9bc519e225c6", func := "proctor/proctorlaw20.InboxFresh", spec := "inboxFresh", unfollowed := true, recurses := true, apart := false }
def InboxFreshSaid : Prop := inboxFreshRow.holds Try.pinned (OpenSpec.ofChange inboxFreshSpec)

/-- ITS FALSE NEIGHBOUR: 'it returns false'. Refute it at one input. -/
def inboxFreshWrong : ChangeSpec := { name := "inboxFresh", fn := fun _ => fun
  | [d1, d2] => { results := [.lit (.bool false)], args := [d1, d2] }
  | _ => none }
def InboxFreshWrongFalsely : Prop := inboxFreshRow.holds Try.pinned (OpenSpec.ofChange inboxFreshWrong)

/-- 'proctorlaw20.InboxTurns': WHATEVER THE INPUT: true; the input reads as it did. -/
def inboxTurnsSpec : ChangeSpec := { name := "inboxTurns", fn := fun _ => fun
  | [d1, d2, d3] => { results := [.lit (.bool true)], args := [d1, d2, d3] }
  | _ => none }
def inboxTurnsRow : OpenClaim := { program := "ythmajhdemooecaa", sum := "acc5813fffa34035d93c8bb28578d8f2a5c37084cf3f881bbdcf9bc519e225c6", func := "proctor/proctorlaw20.InboxTurns", spec := "inboxTurns", unfollowed := true, recurses := true, apart := false }
def InboxTurnsSaid : Prop := inboxTurnsRow.holds Try.pinned (OpenSpec.ofChange inboxTurnsSpec)

/-- ITS FALSE NEIGHBOUR: 'it returns false'. Refute it at one input. -/
def inboxTurnsWrong : ChangeSpec := { name := "inboxTurns", fn := fun _ => fun
  | [d1, d2, d3] => { results := [.lit (.bool false)], args := [d1, d2, d3] }
  | _ => none }
def InboxTurnsWrongFalsely : Prop := inboxTurnsRow.holds Try.pinned (OpenSpec.ofChange inboxTurnsWrong)

/-- 'proctorlaw20.InboxBatches': WHATEVER THE INPUT: true; the input reads as it did. -/
def inboxBatchesSpec : ChangeSpec := { name := "inboxBatches", fn := fun _ => fun
  | [d1, d2, d3] => { results := [.lit (.bool true)], args := [d1, d2, d3] }
  | _ => none }
def inboxBatchesRow : OpenClaim := { program := "ythmajhdemooecaa", sum := "acc5813fffa34035d93c8bb28578d8f2a5c37084cf3f881bbdcf9bc519e225c6", func := "proctor/proctorlaw20.InboxBatches", spec := "inboxBatches", unfollowed := true, recurses := true, apart := false }
def InboxBatchesSaid : Prop := inboxBatchesRow.holds Try.pinned (OpenSpec.ofChange inboxBatchesSpec)

/-- ITS FALSE NEIGHBOUR: 'it returns false'. Refute it at one input. -/
def inboxBatchesWrong : ChangeSpec := { name := "inboxBatches", fn := fun _ => fun
  | [d1, d2, d3] => { results := [.lit (.bool false)], args := [d1, d2, d3] }
  | _ => none }
def InboxBatchesWrongFalsely : Prop := inboxBatchesRow.holds Try.pinned (OpenSpec.ofChange inboxBatchesWrong)

/-- 'proctorlaw27.BatcherTaken': WHATEVER THE INPUT: true; the input reads as it did. -/
def batcherTakenSpec : ChangeSpec := { name := "batcherTaken", fn := fun _ => fun
  | [d1, d2] => { results := [.lit (.bool true)], args := [d1, d2] }
  | _ => none }
def batcherTakenRow : OpenClaim := { program := "ythmajhdemooecaa", sum := "acc5813fffa34035d93c8bb28578d8f2a5c37084cf3f881bbdcf9bc519e225c6", func := "proctor/proctorlaw27.BatcherTaken", spec := "batcherTaken", unfollowed := true, recurses := true, apart := false }
def BatcherTakenSaid : Prop := batcherTakenRow.holds Try.pinned (OpenSpec.ofChange batcherTakenSpec)

/-- ITS FALSE NEIGHBOUR: 'it returns false'. Refute it at one input. -/
def batcherTakenWrong : ChangeSpec := { name := "batcherTaken", fn := fun _ => fun
  | [d1, d2] => { results := [.lit (.bool false)], args := [d1, d2] }
  | _ => none }
def BatcherTakenWrongFalsely : Prop := batcherTakenRow.holds Try.pinned (OpenSpec.ofChange batcherTakenWrong)

/- THE SECOND FORM. 'bulk': how many values and letters a reading holds, each counted each time it is reached (what is shared counts as often as it is met; a slice's spare places count too). A statement '..UptoSaid' is the law's where the arguments, and the package variables that the reading takes, are together of bulk at most 1048576: NARROWER than '..Said'. Prove '..Said' where nothing that the law and all that it calls make is longer than what came in: it says more and counts as full. Else prove '..UptoSaid'. A law counts once. -/
mutual
def uptoBulk {H : Type} : DataW H → Nat
  | .lit (.string bytes) => bytes.length + 1
  | .lit _ => 1
  | .nil => 1
  | .ptr d => uptoBulk d + 1
  | .slice elems spare => uptoBulkAll elems + uptoBulkAll spare + 1
  | .agg parts => uptoBulkAll parts + 1
  | .iface _ d => uptoBulk d + 1
  | .map entries => uptoBulkEntries entries + 1
  | .held _ => 1
def uptoBulkAll {H : Type} : List (DataW H) → Nat
  | [] => 0
  | d :: r => uptoBulk d + uptoBulkAll r
def uptoBulkEntries {H : Type} : List (Lit × DataW H) → Nat
  | [] => 0
  | x :: r => uptoBulkEntry x + uptoBulkEntries r
def uptoBulkEntry {H : Type} : Lit × DataW H → Nat
  | (.string bytes, d) => bytes.length + uptoBulk d + 1
  | (_, d) => uptoBulk d + 1
 end
def uptoSmall : (H : Type) → List (DataW H) → Bool := fun _ ds => decide (uptoBulkAll ds ≤ 1048576)
def OpenSpec.upto (s : _root_.Go.ChangeSpec) : _root_.Go.OpenSpec := { _root_.Go.OpenSpec.ofChange s with cond := some uptoSmall }

/-- 'proctorlaw20.InboxOpen', WHERE WHAT IT READS IS OF BULK AT MOST 1048576: true; the input reads as it did. -/
def inboxOpenUptoRow : OpenClaim := { program := "ythmajhdemooecaa", sum := "acc5813fffa34035d93c8bb28578d8f2a5c37084cf3f881bbdcf9bc519e225c6", func := "proctor/proctorlaw20.InboxOpen", spec := "inboxOpen", unfollowed := true, recurses := true, apart := false, narrowed := true }
def InboxOpenUptoSaid : Prop := inboxOpenUptoRow.holds Try.pinned (OpenSpec.upto inboxOpenSpec)

/-- 'proctorlaw20.InboxDeposits', WHERE WHAT IT READS IS OF BULK AT MOST 1048576: true; the input reads as it did. -/
def inboxDepositsUptoRow : OpenClaim := { program := "ythmajhdemooecaa", sum := "acc5813fffa34035d93c8bb28578d8f2a5c37084cf3f881bbdcf9bc519e225c6", func := "proctor/proctorlaw20.InboxDeposits", spec := "inboxDeposits", unfollowed := true, recurses := true, apart := false, narrowed := true }
def InboxDepositsUptoSaid : Prop := inboxDepositsUptoRow.holds Try.pinned (OpenSpec.upto inboxDepositsSpec)

/-- 'proctorlaw20.InboxFresh', WHERE WHAT IT READS IS OF BULK AT MOST 1048576: true; the input reads as it did. -/
def inboxFreshUptoRow : OpenClaim := { program := "ythmajhdemooecaa", sum := "acc5813fffa34035d93c8bb28578d8f2a5c37084cf3f881bbdcf9bc519e225c6", func := "proctor/proctorlaw20.InboxFresh", spec := "inboxFresh", unfollowed := true, recurses := true, apart := false, narrowed := true }
def InboxFreshUptoSaid : Prop := inboxFreshUptoRow.holds Try.pinned (OpenSpec.upto inboxFreshSpec)

/-- 'proctorlaw20.InboxTurns', WHERE WHAT IT READS IS OF BULK AT MOST 1048576: true; the input reads as it did. -/
def inboxTurnsUptoRow : OpenClaim := { program := "ythmajhdemooecaa", sum := "acc5813fffa34035d93c8bb28578d8f2a5c37084cf3f881bbdcf9bc519e225c6", func := "proctor/proctorlaw20.InboxTurns", spec := "inboxTurns", unfollowed := true, recurses := true, apart := false, narrowed := true }
def InboxTurnsUptoSaid : Prop := inboxTurnsUptoRow.holds Try.pinned (OpenSpec.upto inboxTurnsSpec)

/-- 'proctorlaw20.InboxBatches', WHERE WHAT IT READS IS OF BULK AT MOST 1048576: true; the input reads as it did. -/
def inboxBatchesUptoRow : OpenClaim := { program := "ythmajhdemooecaa", sum := "acc5813fffa34035d93c8bb28578d8f2a5c37084cf3f881bbdcf9bc519e225c6", func := "proctor/proctorlaw20.InboxBatches", spec := "inboxBatches", unfollowed := true, recurses := true, apart := false, narrowed := true }
def InboxBatchesUptoSaid : Prop := inboxBatchesUptoRow.holds Try.pinned (OpenSpec.upto inboxBatchesSpec)

/-- 'proctorlaw27.BatcherTaken', WHERE WHAT IT READS IS OF BULK AT MOST 1048576: true; the input reads as it did. -/
def batcherTakenUptoRow : OpenClaim := { program := "ythmajhdemooecaa", sum := "acc5813fffa34035d93c8bb28578d8f2a5c37084cf3f881bbdcf9bc519e225c6", func := "proctor/proctorlaw27.BatcherTaken", spec := "batcherTaken", unfollowed := true, recurses := true, apart := false, narrowed := true }
def BatcherTakenUptoSaid : Prop := batcherTakenUptoRow.holds Try.pinned (OpenSpec.upto batcherTakenSpec)

end Rows
end Go.Proofs.Ythmajhdemooecaa
