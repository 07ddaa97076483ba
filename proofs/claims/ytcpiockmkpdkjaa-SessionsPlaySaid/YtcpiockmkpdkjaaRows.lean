/-
  No cell of these rows narrows 'for every input' (looked for: loops, veiled, ifaces, maps, wideKeys, modest, calm, conditions, laid).
  DERIVED. THE GIVEN ROWS OF THIS SEAT. 3 by the template 'for every input the law returns true; each argument reads behind the call as it read before'; 0 by the template 'total and deterministic' (their statements: YtcpiockmkpdkjaaTotals.lean).
  GIVEN WITH THE SEED: the statements are not yours to turn. If you find one false, say at which input.
  Laid BY PROGRAM, IN A SANDBOX (cutbox-rows.mjs): the forced cells as the released guide's own fill.sh prints them over the translation 665d14d42cdd5b76… (all of the seat's roots in one cut). By AI agents, Wed Nov 11 2026. No macro, syntax, notation, axiom, sorry.
-/
import Derived.Test.YtcpiockmkpdkjaaChecked
import GoSem.Claim
import GoSem.ClaimJoined
import GoSem.ClaimMapViews
import Derived.JoinedTies
import Derived.KernelRfl
namespace Go.Proofs.Ytcpiockmkpdkjaa
/- THE CELL 'sum', in the pinned program and in every row, IS THE sha256 OF THE DUMP (.gsa) THAT YtcpiockmkpdkjaaProg.lean LOADS. Nothing in Lean hashes anything: it is a label: what it is worth is what the hold of that sum in a sandbox is worth. -/
noncomputable def Try.pinned : Pinned := { name := "ytcpiockmkpdkjaa", sum := "665d14d42cdd5b76a6357c0d5eed3678f426fa195fa0d1301f01e0ff382bceb6", checked := Try.checked }
namespace Rows
def none {H : Type} : Left H := { results := [], args := [] }

/-- 'countinghouselaw25.SessionsPlay': WHATEVER THE INPUT: true; the input reads as it did. -/
def sessionsPlaySpec : ChangeSpec := { name := "sessionsPlay", fn := fun _ => fun
  | [d] => { results := [.lit (.bool true)], args := [d] }
  | _ => none }
def sessionsPlayRow : OpenClaim := { program := "ytcpiockmkpdkjaa", sum := "665d14d42cdd5b76a6357c0d5eed3678f426fa195fa0d1301f01e0ff382bceb6", func := "countinghouse/countinghouselaw25.SessionsPlay", spec := "sessionsPlay", unfollowed := true, recurses := true, apart := false }
def SessionsPlaySaid : Prop := sessionsPlayRow.holds Try.pinned (OpenSpec.ofChange sessionsPlaySpec)

/-- ITS FALSE NEIGHBOUR: 'it returns false'. Refute it at one input. -/
def sessionsPlayWrong : ChangeSpec := { name := "sessionsPlay", fn := fun _ => fun
  | [d] => { results := [.lit (.bool false)], args := [d] }
  | _ => none }
def SessionsPlayWrongFalsely : Prop := sessionsPlayRow.holds Try.pinned (OpenSpec.ofChange sessionsPlayWrong)

/-- 'countinghouselaw25.SessionsOf': WHATEVER THE INPUT: true; the input reads as it did. -/
def sessionsOfSpec : ChangeSpec := { name := "sessionsOf", fn := fun _ => fun
  | [d] => { results := [.lit (.bool true)], args := [d] }
  | _ => none }
def sessionsOfRow : OpenClaim := { program := "ytcpiockmkpdkjaa", sum := "665d14d42cdd5b76a6357c0d5eed3678f426fa195fa0d1301f01e0ff382bceb6", func := "countinghouse/countinghouselaw25.SessionsOf", spec := "sessionsOf", unfollowed := true, recurses := true, apart := false }
def SessionsOfSaid : Prop := sessionsOfRow.holds Try.pinned (OpenSpec.ofChange sessionsOfSpec)

/-- ITS FALSE NEIGHBOUR: 'it returns false'. Refute it at one input. -/
def sessionsOfWrong : ChangeSpec := { name := "sessionsOf", fn := fun _ => fun
  | [d] => { results := [.lit (.bool false)], args := [d] }
  | _ => none }
def SessionsOfWrongFalsely : Prop := sessionsOfRow.holds Try.pinned (OpenSpec.ofChange sessionsOfWrong)

/-- 'countinghouselaw25.SessionsRise': WHATEVER THE INPUT: true; the input reads as it did. -/
def sessionsRiseSpec : ChangeSpec := { name := "sessionsRise", fn := fun _ => fun
  | [d] => { results := [.lit (.bool true)], args := [d] }
  | _ => none }
def sessionsRiseRow : OpenClaim := { program := "ytcpiockmkpdkjaa", sum := "665d14d42cdd5b76a6357c0d5eed3678f426fa195fa0d1301f01e0ff382bceb6", func := "countinghouse/countinghouselaw25.SessionsRise", spec := "sessionsRise", unfollowed := true, recurses := true, apart := false }
def SessionsRiseSaid : Prop := sessionsRiseRow.holds Try.pinned (OpenSpec.ofChange sessionsRiseSpec)

/-- ITS FALSE NEIGHBOUR: 'it returns false'. Refute it at one input. -/
def sessionsRiseWrong : ChangeSpec := { name := "sessionsRise", fn := fun _ => fun
  | [d] => { results := [.lit (.bool false)], args := [d] }
  | _ => none }
def SessionsRiseWrongFalsely : Prop := sessionsRiseRow.holds Try.pinned (OpenSpec.ofChange sessionsRiseWrong)

/- THE SECOND FORM. 'bulk': how many values and letters a reading holds, each counted each time it is reached (what is shared counts as often as it is met; a slice's spare places count too). A statement '..UptoSaid' is the law's where the arguments, and the package variables that the reading takes, are together of bulk at most 1048576: NARROWER than '..Said'. Prove '..Said' where nothing that the law and all that it calls make is longer than what came in: it says more and counts as full. Else prove '..UptoSaid'. A law counts once. -/
mutual
def uptoBulk {H : Type} : DataW H → Nat
  | .lit (.string bytes) => bytes.length + 1
  | .lit _ => 1
  | .nil => 1
  | .ptr d => uptoBulk d + 1
  | .slice elems spare => uptoBulkAll elems + uptoBulkAll spare + 1
  | .agg parts => uptoBulkAll parts + 1
  | .iface _ d => uptoBulk d + 1
  | .map entries => uptoBulkEntries entries + 1
  | .held _ => 1
def uptoBulkAll {H : Type} : List (DataW H) → Nat
  | [] => 0
  | d :: r => uptoBulk d + uptoBulkAll r
def uptoBulkEntries {H : Type} : List (Lit × DataW H) → Nat
  | [] => 0
  | x :: r => uptoBulkEntry x + uptoBulkEntries r
def uptoBulkEntry {H : Type} : Lit × DataW H → Nat
  | (.string bytes, d) => bytes.length + uptoBulk d + 1
  | (_, d) => uptoBulk d + 1
 end
def uptoSmall : (H : Type) → List (DataW H) → Bool := fun _ ds => decide (uptoBulkAll ds ≤ 1048576)
def OpenSpec.upto (s : _root_.Go.ChangeSpec) : _root_.Go.OpenSpec := { _root_.Go.OpenSpec.ofChange s with cond := some uptoSmall }

/-- 'countinghouselaw25.SessionsPlay', WHERE WHAT IT READS IS OF BULK AT MOST 1048576: true; the input reads as it did. -/
def sessionsPlayUptoRow : OpenClaim := { program := "ytcpiockmkpdkjaa", sum := "665d14d42cdd5b76a6357c0d5eed3678f426fa195fa0d1301f01e0ff382bceb6", func := "countinghouse/countinghouselaw25.SessionsPlay", spec := "sessionsPlay", unfollowed := true, recurses := true, apart := false, narrowed := true }
def SessionsPlayUptoSaid : Prop := sessionsPlayUptoRow.holds Try.pinned (OpenSpec.upto sessionsPlaySpec)

/-- 'countinghouselaw25.SessionsOf', WHERE WHAT IT READS IS OF BULK AT MOST 1048576: true; the input reads as it did. -/
def sessionsOfUptoRow : OpenClaim := { program := "ytcpiockmkpdkjaa", sum := "665d14d42cdd5b76a6357c0d5eed3678f426fa195fa0d1301f01e0ff382bceb6", func := "countinghouse/countinghouselaw25.SessionsOf", spec := "sessionsOf", unfollowed := true, recurses := true, apart := false, narrowed := true }
def SessionsOfUptoSaid : Prop := sessionsOfUptoRow.holds Try.pinned (OpenSpec.upto sessionsOfSpec)

/-- 'countinghouselaw25.SessionsRise', WHERE WHAT IT READS IS OF BULK AT MOST 1048576: true; the input reads as it did. -/
def sessionsRiseUptoRow : OpenClaim := { program := "ytcpiockmkpdkjaa", sum := "665d14d42cdd5b76a6357c0d5eed3678f426fa195fa0d1301f01e0ff382bceb6", func := "countinghouse/countinghouselaw25.SessionsRise", spec := "sessionsRise", unfollowed := true, recurses := true, apart := false, narrowed := true }
def SessionsRiseUptoSaid : Prop := sessionsRiseUptoRow.holds Try.pinned (OpenSpec.upto sessionsRiseSpec)

end Rows
end Go.Proofs.Ytcpiockmkpdkjaa
