/-
  No cell of these rows narrows 'for every input' (looked for: loops, veiled, ifaces, maps, wideKeys, modest, calm, conditions, laid).
  DERIVED. THE GIVEN ROWS OF THIS SEAT. 5 by the template 'for every input the law returns true; each argument reads behind the call as it read before'; 0 by the template 'total and deterministic' (their statements: YtbhdkionphemdaaTotals.lean).
  GIVEN WITH THE SEED: the statements are not yours to turn. If you find one false, say at which input.
  Laid BY PROGRAM, IN A SANDBOX (cutbox-rows.mjs): the forced cells as the released guide's own fill.sh prints them over the translation ac4c9d85d2b1731d… (all of the seat's roots in one cut). By AI agents, Wed Nov 11 2026. No macro, syntax, notation, axiom, sorry.
-/
import Derived.Test.YtbhdkionphemdaaChecked
import GoSem.Claim
import GoSem.ClaimJoined
import GoSem.ClaimMapViews
import Derived.JoinedTies
import Derived.KernelRfl
namespace Go.Proofs.Ytbhdkionphemdaa
/- THE CELL 'sum', in the pinned program and in every row, IS THE sha256 OF THE DUMP (.gsa) THAT YtbhdkionphemdaaProg.lean LOADS. Nothing in Lean hashes anything: it is a label: what it is worth is what the hold of that sum in a sandbox is worth. -/
noncomputable def Try.pinned : Pinned := { name := "ytbhdkionphemdaa", sum := "ac4c9d85d2b1731dd2b2e35c0f71a60d9658eee9ae814dbedea9628c0e340513", checked := Try.checked }
namespace Rows
def none {H : Type} : Left H := { results := [], args := [] }

/-- 'spyglasslaw11.KeysTurns': WHATEVER THE INPUT: true; the input reads as it did. -/
def keysTurnsSpec : ChangeSpec := { name := "keysTurns", fn := fun _ => fun
  | [d1, d2, d3] => { results := [.lit (.bool true)], args := [d1, d2, d3] }
  | _ => none }
def keysTurnsRow : OpenClaim := { program := "ytbhdkionphemdaa", sum := "ac4c9d85d2b1731dd2b2e35c0f71a60d9658eee9ae814dbedea9628c0e340513", func := "spyglass/spyglasslaw11.KeysTurns", spec := "keysTurns", unfollowed := true, recurses := true, plainKeys := false, apart := false }
def KeysTurnsSaid : Prop := keysTurnsRow.holds Try.pinned (OpenSpec.ofChange keysTurnsSpec)

/-- ITS FALSE NEIGHBOUR: 'it returns false'. Refute it at one input. -/
def keysTurnsWrong : ChangeSpec := { name := "keysTurns", fn := fun _ => fun
  | [d1, d2, d3] => { results := [.lit (.bool false)], args := [d1, d2, d3] }
  | _ => none }
def KeysTurnsWrongFalsely : Prop := keysTurnsRow.holds Try.pinned (OpenSpec.ofChange keysTurnsWrong)

/-- 'spyglasslaw11.KeysTakes': WHATEVER THE INPUT: true; the input reads as it did. -/
def keysTakesSpec : ChangeSpec := { name := "keysTakes", fn := fun _ => fun
  | [d1, d2] => { results := [.lit (.bool true)], args := [d1, d2] }
  | _ => none }
def keysTakesRow : OpenClaim := { program := "ytbhdkionphemdaa", sum := "ac4c9d85d2b1731dd2b2e35c0f71a60d9658eee9ae814dbedea9628c0e340513", func := "spyglass/spyglasslaw11.KeysTakes", spec := "keysTakes", unfollowed := true, recurses := true, plainKeys := false, apart := false }
def KeysTakesSaid : Prop := keysTakesRow.holds Try.pinned (OpenSpec.ofChange keysTakesSpec)

/-- ITS FALSE NEIGHBOUR: 'it returns false'. Refute it at one input. -/
def keysTakesWrong : ChangeSpec := { name := "keysTakes", fn := fun _ => fun
  | [d1, d2] => { results := [.lit (.bool false)], args := [d1, d2] }
  | _ => none }
def KeysTakesWrongFalsely : Prop := keysTakesRow.holds Try.pinned (OpenSpec.ofChange keysTakesWrong)

/-- 'spyglasslaw11.KeysOnce': WHATEVER THE INPUT: true; the input reads as it did. -/
def keysOnceSpec : ChangeSpec := { name := "keysOnce", fn := fun _ => fun
  | [d1, d2] => { results := [.lit (.bool true)], args := [d1, d2] }
  | _ => none }
def keysOnceRow : OpenClaim := { program := "ytbhdkionphemdaa", sum := "ac4c9d85d2b1731dd2b2e35c0f71a60d9658eee9ae814dbedea9628c0e340513", func := "spyglass/spyglasslaw11.KeysOnce", spec := "keysOnce", unfollowed := true, recurses := true, plainKeys := false, apart := false }
def KeysOnceSaid : Prop := keysOnceRow.holds Try.pinned (OpenSpec.ofChange keysOnceSpec)

/-- ITS FALSE NEIGHBOUR: 'it returns false'. Refute it at one input. -/
def keysOnceWrong : ChangeSpec := { name := "keysOnce", fn := fun _ => fun
  | [d1, d2] => { results := [.lit (.bool false)], args := [d1, d2] }
  | _ => none }
def KeysOnceWrongFalsely : Prop := keysOnceRow.holds Try.pinned (OpenSpec.ofChange keysOnceWrong)

/-- 'spyglasslaw11.KeysJoins': WHATEVER THE INPUT: true; the input reads as it did. -/
def keysJoinsSpec : ChangeSpec := { name := "keysJoins", fn := fun _ => fun
  | [d1, d2] => { results := [.lit (.bool true)], args := [d1, d2] }
  | _ => none }
def keysJoinsRow : OpenClaim := { program := "ytbhdkionphemdaa", sum := "ac4c9d85d2b1731dd2b2e35c0f71a60d9658eee9ae814dbedea9628c0e340513", func := "spyglass/spyglasslaw11.KeysJoins", spec := "keysJoins", unfollowed := true, recurses := true, plainKeys := false, apart := false }
def KeysJoinsSaid : Prop := keysJoinsRow.holds Try.pinned (OpenSpec.ofChange keysJoinsSpec)

/-- ITS FALSE NEIGHBOUR: 'it returns false'. Refute it at one input. -/
def keysJoinsWrong : ChangeSpec := { name := "keysJoins", fn := fun _ => fun
  | [d1, d2] => { results := [.lit (.bool false)], args := [d1, d2] }
  | _ => none }
def KeysJoinsWrongFalsely : Prop := keysJoinsRow.holds Try.pinned (OpenSpec.ofChange keysJoinsWrong)

/-- 'spyglasslaw11.KeysAligns': WHATEVER THE INPUT: true; the input reads as it did. -/
def keysAlignsSpec : ChangeSpec := { name := "keysAligns", fn := fun _ => fun
  | [d1, d2] => { results := [.lit (.bool true)], args := [d1, d2] }
  | _ => none }
def keysAlignsRow : OpenClaim := { program := "ytbhdkionphemdaa", sum := "ac4c9d85d2b1731dd2b2e35c0f71a60d9658eee9ae814dbedea9628c0e340513", func := "spyglass/spyglasslaw11.KeysAligns", spec := "keysAligns", unfollowed := true, recurses := true, plainKeys := false, apart := false }
def KeysAlignsSaid : Prop := keysAlignsRow.holds Try.pinned (OpenSpec.ofChange keysAlignsSpec)

/-- ITS FALSE NEIGHBOUR: 'it returns false'. Refute it at one input. -/
def keysAlignsWrong : ChangeSpec := { name := "keysAligns", fn := fun _ => fun
  | [d1, d2] => { results := [.lit (.bool false)], args := [d1, d2] }
  | _ => none }
def KeysAlignsWrongFalsely : Prop := keysAlignsRow.holds Try.pinned (OpenSpec.ofChange keysAlignsWrong)

/- THE SECOND FORM. 'bulk': how many values and letters a reading holds, each counted each time it is reached (what is shared counts as often as it is met; a slice's spare places count too). A statement '..UptoSaid' is the law's where the arguments, and the package variables that the reading takes, are together of bulk at most 1048576: NARROWER than '..Said'. Prove '..Said' where nothing that the law and all that it calls make is longer than what came in: it says more and counts as full. Else prove '..UptoSaid'. A law counts once. -/
mutual
def uptoBulk {H : Type} : DataW H → Nat
  | .lit (.string bytes) => bytes.length + 1
  | .lit _ => 1
  | .nil => 1
  | .ptr d => uptoBulk d + 1
  | .slice elems spare => uptoBulkAll elems + uptoBulkAll spare + 1
  | .agg parts => uptoBulkAll parts + 1
  | .iface _ d => uptoBulk d + 1
  | .map entries => uptoBulkEntries entries + 1
  | .held _ => 1
def uptoBulkAll {H : Type} : List (DataW H) → Nat
  | [] => 0
  | d :: r => uptoBulk d + uptoBulkAll r
def uptoBulkEntries {H : Type} : List (Lit × DataW H) → Nat
  | [] => 0
  | x :: r => uptoBulkEntry x + uptoBulkEntries r
def uptoBulkEntry {H : Type} : Lit × DataW H → Nat
  | (.string bytes, d) => bytes.length + uptoBulk d + 1
  | (_, d) => uptoBulk d + 1
 end
def uptoSmall : (H : Type) → List (DataW H) → Bool := fun _ ds => decide (uptoBulkAll ds ≤ 1048576)
def OpenSpec.upto (s : _root_.Go.ChangeSpec) : _root_.Go.OpenSpec := { _root_.Go.OpenSpec.ofChange s with cond := some uptoSmall }

/-- 'spyglasslaw11.KeysTurns', WHERE WHAT IT READS IS OF BULK AT MOST 1048576: true; the input reads as it did. -/
def keysTurnsUptoRow : OpenClaim := { program := "ytbhdkionphemdaa", sum := "ac4c9d85d2b1731dd2b2e35c0f71a60d9658eee9ae814dbedea9628c0e340513", func := "spyglass/spyglasslaw11.KeysTurns", spec := "keysTurns", unfollowed := true, recurses := true, plainKeys := false, apart := false, narrowed := true }
def KeysTurnsUptoSaid : Prop := keysTurnsUptoRow.holds Try.pinned (OpenSpec.upto keysTurnsSpec)

/-- 'spyglasslaw11.KeysTakes', WHERE WHAT IT READS IS OF BULK AT MOST 1048576: true; the input reads as it did. -/
def keysTakesUptoRow : OpenClaim := { program := "ytbhdkionphemdaa", sum := "ac4c9d85d2b1731dd2b2e35c0f71a60d9658eee9ae814dbedea9628c0e340513", func := "spyglass/spyglasslaw11.KeysTakes", spec := "keysTakes", unfollowed := true, recurses := true, plainKeys := false, apart := false, narrowed := true }
def KeysTakesUptoSaid : Prop := keysTakesUptoRow.holds Try.pinned (OpenSpec.upto keysTakesSpec)

/-- 'spyglasslaw11.KeysOnce', WHERE WHAT IT READS IS OF BULK AT MOST 1048576: true; the input reads as it did. -/
def keysOnceUptoRow : OpenClaim := { program := "ytbhdkionphemdaa", sum := "ac4c9d85d2b1731dd2b2e35c0f71a60d9658eee9ae814dbedea9628c0e340513", func := "spyglass/spyglasslaw11.KeysOnce", spec := "keysOnce", unfollowed := true, recurses := true, plainKeys := false, apart := false, narrowed := true }
def KeysOnceUptoSaid : Prop := keysOnceUptoRow.holds Try.pinned (OpenSpec.upto keysOnceSpec)

/-- 'spyglasslaw11.KeysJoins', WHERE WHAT IT READS IS OF BULK AT MOST 1048576: true; the input reads as it did. -/
def keysJoinsUptoRow : OpenClaim := { program := "ytbhdkionphemdaa", sum := "ac4c9d85d2b1731dd2b2e35c0f71a60d9658eee9ae814dbedea9628c0e340513", func := "spyglass/spyglasslaw11.KeysJoins", spec := "keysJoins", unfollowed := true, recurses := true, plainKeys := false, apart := false, narrowed := true }
def KeysJoinsUptoSaid : Prop := keysJoinsUptoRow.holds Try.pinned (OpenSpec.upto keysJoinsSpec)

/-- 'spyglasslaw11.KeysAligns', WHERE WHAT IT READS IS OF BULK AT MOST 1048576: true; the input reads as it did. -/
def keysAlignsUptoRow : OpenClaim := { program := "ytbhdkionphemdaa", sum := "ac4c9d85d2b1731dd2b2e35c0f71a60d9658eee9ae814dbedea9628c0e340513", func := "spyglass/spyglasslaw11.KeysAligns", spec := "keysAligns", unfollowed := true, recurses := true, plainKeys := false, apart := false, narrowed := true }
def KeysAlignsUptoSaid : Prop := keysAlignsUptoRow.holds Try.pinned (OpenSpec.upto keysAlignsSpec)

end Rows
end Go.Proofs.Ytbhdkionphemdaa
