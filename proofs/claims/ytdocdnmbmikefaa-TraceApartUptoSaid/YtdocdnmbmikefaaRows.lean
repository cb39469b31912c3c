/-
  No cell of these rows narrows 'for every input' (looked for: loops, veiled, ifaces, maps, wideKeys, modest, calm, conditions, laid).
  DERIVED. THE GIVEN ROWS OF THIS SEAT. 3 by the template 'for every input the law returns true; each argument reads behind the call as it read before'; 0 by the template 'total and deterministic' (their statements: YtdocdnmbmikefaaTotals.lean).
  GIVEN WITH THE SEED: the statements are not yours to turn. If you find one false, say at which input.
  Laid BY PROGRAM, IN A SANDBOX (cutbox-rows.mjs): the forced cells as the released guide's own fill.sh prints them over the translation d3279f436c9b1d32… (all of the seat's roots in one cut). By AI agents, Wed Nov 11 2026. No macro, syntax, notation, axiom, sorry.
-/
import Derived.Test.YtdocdnmbmikefaaChecked
import GoSem.Claim
import GoSem.ClaimJoined
import GoSem.ClaimMapViews
import Derived.JoinedTies
import Derived.KernelRfl
namespace Go.Proofs.Ytdocdnmbmikefaa
/- THE CELL 'sum', in the pinned program and in every row, IS THE sha256 OF THE DUMP (.gsa) THAT YtdocdnmbmikefaaProg.lean LOADS. Nothing in Lean hashes anything: it is a label: what it is worth is what the hold of that sum in a sandbox is worth. -/
noncomputable def Try.pinned : Pinned := { name := "ytdocdnmbmikefaa", sum := "d3279f436c9b1d32038ebc57269b971e3556fe36a60338592dacd6ede33e01a5", checked := Try.checked }
namespace Rows
def none {H : Type} : Left H := { results := [], args := [] }

/-- 'tourbillonlaw22.TraceChecks': WHATEVER THE INPUT: true; the input reads as it did. -/
def traceChecksSpec : ChangeSpec := { name := "traceChecks", fn := fun _ => fun
  | [d1, d2, d3] => { results := [.lit (.bool true)], args := [d1, d2, d3] }
  | _ => none }
def traceChecksRow : OpenClaim := { program := "ytdocdnmbmikefaa", sum := "d3279f436c9b1d32038ebc57269b971e3556fe36a60338592dacd6ede33e01a5", func := "tourbillon/tourbillonlaw22.TraceChecks", spec := "traceChecks", unfollowed := true, recurses := true, plainKeys := false, apart := false }
def TraceChecksSaid : Prop := traceChecksRow.holds Try.pinned (OpenSpec.ofChange traceChecksSpec)

/-- ITS FALSE NEIGHBOUR: 'it returns false'. Refute it at one input. -/
def traceChecksWrong : ChangeSpec := { name := "traceChecks", fn := fun _ => fun
  | [d1, d2, d3] => { results := [.lit (.bool false)], args := [d1, d2, d3] }
  | _ => none }
def TraceChecksWrongFalsely : Prop := traceChecksRow.holds Try.pinned (OpenSpec.ofChange traceChecksWrong)

/-- 'tourbillonlaw22.TraceEmpty': WHATEVER THE INPUT: true; the input reads as it did. -/
def traceEmptySpec : ChangeSpec := { name := "traceEmpty", fn := fun _ => fun
  | [d1, d2, d3, d4] => { results := [.lit (.bool true)], args := [d1, d2, d3, d4] }
  | _ => none }
def traceEmptyRow : OpenClaim := { program := "ytdocdnmbmikefaa", sum := "d3279f436c9b1d32038ebc57269b971e3556fe36a60338592dacd6ede33e01a5", func := "tourbillon/tourbillonlaw22.TraceEmpty", spec := "traceEmpty", unfollowed := true, recurses := true, plainKeys := false, apart := false }
def TraceEmptySaid : Prop := traceEmptyRow.holds Try.pinned (OpenSpec.ofChange traceEmptySpec)

/-- ITS FALSE NEIGHBOUR: 'it returns false'. Refute it at one input. -/
def traceEmptyWrong : ChangeSpec := { name := "traceEmpty", fn := fun _ => fun
  | [d1, d2, d3, d4] => { results := [.lit (.bool false)], args := [d1, d2, d3, d4] }
  | _ => none }
def TraceEmptyWrongFalsely : Prop := traceEmptyRow.holds Try.pinned (OpenSpec.ofChange traceEmptyWrong)

/-- 'tourbillonlaw22.TraceApart': WHATEVER THE INPUT: true; the input reads as it did. -/
def traceApartSpec : ChangeSpec := { name := "traceApart", fn := fun _ => fun
  | [d1, d2, d3] => { results := [.lit (.bool true)], args := [d1, d2, d3] }
  | _ => none }
def traceApartRow : OpenClaim := { program := "ytdocdnmbmikefaa", sum := "d3279f436c9b1d32038ebc57269b971e3556fe36a60338592dacd6ede33e01a5", func := "tourbillon/tourbillonlaw22.TraceApart", spec := "traceApart", unfollowed := true, recurses := true, plainKeys := false, apart := false }
def TraceApartSaid : Prop := traceApartRow.holds Try.pinned (OpenSpec.ofChange traceApartSpec)

/-- ITS FALSE NEIGHBOUR: 'it returns false'. Refute it at one input. -/
def traceApartWrong : ChangeSpec := { name := "traceApart", fn := fun _ => fun
  | [d1, d2, d3] => { results := [.lit (.bool false)], args := [d1, d2, d3] }
  | _ => none }
def TraceApartWrongFalsely : Prop := traceApartRow.holds Try.pinned (OpenSpec.ofChange traceApartWrong)

/- THE SECOND FORM. 'bulk': how many values and letters a reading holds, each counted each time it is reached (what is shared counts as often as it is met; a slice's spare places count too). A statement '..UptoSaid' is the law's where the arguments, and the package variables that the reading takes, are together of bulk at most 1048576: NARROWER than '..Said'. Prove '..Said' where nothing that the law and all that it calls make is longer than what came in: it says more and counts as full. Else prove '..UptoSaid'. A law counts once. -/
mutual
def uptoBulk {H : Type} : DataW H → Nat
  | .lit (.string bytes) => bytes.length + 1
  | .lit _ => 1
  | .nil => 1
  | .ptr d => uptoBulk d + 1
  | .slice elems spare => uptoBulkAll elems + uptoBulkAll spare + 1
  | .agg parts => uptoBulkAll parts + 1
  | .iface _ d => uptoBulk d + 1
  | .map entries => uptoBulkEntries entries + 1
  | .held _ => 1
def uptoBulkAll {H : Type} : List (DataW H) → Nat
  | [] => 0
  | d :: r => uptoBulk d + uptoBulkAll r
def uptoBulkEntries {H : Type} : List (Lit × DataW H) → Nat
  | [] => 0
  | x :: r => uptoBulkEntry x + uptoBulkEntries r
def uptoBulkEntry {H : Type} : Lit × DataW H → Nat
  | (.string bytes, d) => bytes.length + uptoBulk d + 1
  | (_, d) => uptoBulk d + 1
 end
def uptoSmall : (H : Type) → List (DataW H) → Bool := fun _ ds => decide (uptoBulkAll ds ≤ 1048576)
def OpenSpec.upto (s : _root_.Go.ChangeSpec) : _root_.Go.OpenSpec := { _root_.Go.OpenSpec.ofChange s with cond := some uptoSmall }

/-- 'tourbillonlaw22.TraceChecks', WHERE WHAT IT READS IS OF BULK AT MOST 1048576: true; the input reads as it did. -/
def traceChecksUptoRow : OpenClaim := { program := "ytdocdnmbmikefaa", sum := "d3279f436c9b1d32038ebc57269b971e3556fe36a60338592dacd6ede33e01a5", func := "tourbillon/tourbillonlaw22.TraceChecks", spec := "traceChecks", unfollowed := true, recurses := true, plainKeys := false, apart := false, narrowed := true }
def TraceChecksUptoSaid : Prop := traceChecksUptoRow.holds Try.pinned (OpenSpec.upto traceChecksSpec)

/-- 'tourbillonlaw22.TraceEmpty', WHERE WHAT IT READS IS OF BULK AT MOST 1048576: true; the input reads as it did. -/
def traceEmptyUptoRow : OpenClaim := { program := "ytdocdnmbmikefaa", sum := "d3279f436c9b1d32038ebc57269b971e3556fe36a60338592dacd6ede33e01a5", func := "tourbillon/tourbillonlaw22.TraceEmpty", spec := "traceEmpty", unfollowed := true, recurses := true, plainKeys := false, apart := false, narrowed := true }
def TraceEmptyUptoSaid : Prop := traceEmptyUptoRow.holds Try.pinned (OpenSpec.upto traceEmptySpec)

/-- 'tourbillonlaw22.TraceApart', WHERE WHAT IT READS IS OF BULK AT MOST 1048576: true; the input reads as it did. -/
def traceApartUptoRow : OpenClaim := { program := "ytdocdnmbmikefaa", sum := "d3279f436c9b1d32038ebc57269b971e3556fe36a60338592dacd6ede33e01a5", func := "tourbillon/tourbillonlaw22.TraceApart", spec := "traceApart", unfollowed := true, recurses := true, plainKeys := false, apart := false, narrowed := true }
def TraceApartUptoSaid : Prop := traceApartUptoRow.holds Try.pinned (OpenSpec.upto traceApartSpec)

end Rows
end Go.Proofs.Ytdocdnmbmikefaa
