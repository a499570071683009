/-
  NARROWER THAN 'FOR EVERY INPUT', by the rows' own cells (each row's printed sentence says how): KeysLists: laid · PathParts: laid · PathStars: laid.
  DERIVED. THE GIVEN ROWS OF THIS SEAT. 3 by the template 'for every input the law returns true; each argument reads behind the call as it read before'; 0 by the template 'total and deterministic' (their statements: YtoknglpfchjbjaaDoorTotals.lean).
  GIVEN WITH THE SEED: the statements are not yours to turn. If you find one false, say at which input.
  Laid BY PROGRAM, IN A SANDBOX (cutbox-rows.mjs): the forced cells as the released guide's own fill.sh prints them over the translation 23b79e902971ae97… (all of the seat's roots in one cut). By AI agents, Wed Nov 11 2026. No macro, syntax, notation, axiom, sorry.
-/
import Derived.Test.YtoknglpfchjbjaaDoorChecked
import GoSem.Claim
import GoSem.ClaimJoined
import GoSem.ClaimMapViews
import Derived.JoinedTies
import Derived.KernelRfl
namespace Go.Proofs.YtoknglpfchjbjaaDoor
/- THE CELL 'sum', in the pinned program and in every row, IS THE sha256 OF THE DUMP (.gsa) THAT YtoknglpfchjbjaaDoorProg.lean LOADS. Nothing in Lean hashes anything: it is a label: what it is worth is what the hold of that sum in a sandbox is worth. -/
noncomputable def Tryd.pinned : Pinned := { name := "ytoknglpfchjbjaadoor", sum := "23b79e902971ae974565a9226e5468cfc45e9d24cdbe506b06bd28b0c07d5847", checked := Tryd.checked }
namespace Rows
def none {H : Type} : Left H := { results := [], args := [] }

/- WHAT THE LISTED PACKAGE-LEVEL VARIABLES READ AS WHEN THE CALL BEGINS. Each datum BY PROGRAM (the guide's laid-datum.mjs) off the statement by which the dump's own 'gosem.cut.vars' lays the variable. In a bare row this is a premise. The card (YtoknglpfchjbjaaDoorCards.lean) ties it to the program's text. -/
def laid_spyglass_utf_spans {H : Type} : DataW H := .agg [.agg [.lit (.int .i32 9), .lit (.int .i32 10)], .agg [.lit (.int .i32 13), .lit (.int .i32 13)], .agg [.lit (.int .i32 32), .lit (.int .i32 55295)], .agg [.lit (.int .i32 57344), .lit (.int .i32 65533)], .agg [.lit (.int .i32 65536), .lit (.int .i32 1114111)]]

/-- 'spyglasslaw11.KeysLists': WHATEVER THE INPUT: true; the input reads as it did. -/
def keysListsSpec : ChangeSpec := { name := "keysLists", fn := fun _ => fun
  | [d1, d2, d3] => { results := [.lit (.bool true)], args := [d1, d2, d3] }
  | _ => none }
def keysListsRow : OpenClaim := { program := "ytoknglpfchjbjaadoor", sum := "23b79e902971ae974565a9226e5468cfc45e9d24cdbe506b06bd28b0c07d5847", func := "spyglass/spyglasslaw11.KeysLists", spec := "keysLists", unfollowed := true, recurses := true, named := ["spyglass/utf.spans"], plainKeys := false, apart := false, laid := [("spyglass/utf.spans", laid_spyglass_utf_spans)] }
def KeysListsSaid : Prop := keysListsRow.holds Tryd.pinned (OpenSpec.ofChange keysListsSpec)

/-- ITS FALSE NEIGHBOUR: 'it returns false'. Refute it at one input. -/
def keysListsWrong : ChangeSpec := { name := "keysLists", fn := fun _ => fun
  | [d1, d2, d3] => { results := [.lit (.bool false)], args := [d1, d2, d3] }
  | _ => none }
def KeysListsWrongFalsely : Prop := keysListsRow.holds Tryd.pinned (OpenSpec.ofChange keysListsWrong)

/-- 'spyglasslaw16.PathParts': WHATEVER THE INPUT: true; the input reads as it did. -/
def pathPartsSpec : ChangeSpec := { name := "pathParts", fn := fun _ => fun
  | [d1, d2, d3] => { results := [.lit (.bool true)], args := [d1, d2, d3] }
  | _ => none }
def pathPartsRow : OpenClaim := { program := "ytoknglpfchjbjaadoor", sum := "23b79e902971ae974565a9226e5468cfc45e9d24cdbe506b06bd28b0c07d5847", func := "spyglass/spyglasslaw16.PathParts", spec := "pathParts", inPlace := ["internal/bytealg.IndexByteString", "internal/bytealg.IndexString", "internal/abi.NoEscape"], unfollowed := true, recurses := true, named := ["internal/bytealg.MaxLen", "spyglass/utf.spans"], plainKeys := false, apart := false, laid := [("spyglass/utf.spans", laid_spyglass_utf_spans)] }
def PathPartsSaid : Prop := pathPartsRow.holds Tryd.pinned (OpenSpec.ofChange pathPartsSpec)

/-- ITS FALSE NEIGHBOUR: 'it returns false'. Refute it at one input. -/
def pathPartsWrong : ChangeSpec := { name := "pathParts", fn := fun _ => fun
  | [d1, d2, d3] => { results := [.lit (.bool false)], args := [d1, d2, d3] }
  | _ => none }
def PathPartsWrongFalsely : Prop := pathPartsRow.holds Tryd.pinned (OpenSpec.ofChange pathPartsWrong)

/-- 'spyglasslaw16.PathStars': WHATEVER THE INPUT: true; the input reads as it did. -/
def pathStarsSpec : ChangeSpec := { name := "pathStars", fn := fun _ => fun
  | [d] => { results := [.lit (.bool true)], args := [d] }
  | _ => none }
def pathStarsRow : OpenClaim := { program := "ytoknglpfchjbjaadoor", sum := "23b79e902971ae974565a9226e5468cfc45e9d24cdbe506b06bd28b0c07d5847", func := "spyglass/spyglasslaw16.PathStars", spec := "pathStars", inPlace := ["internal/bytealg.IndexByteString", "internal/bytealg.IndexString", "internal/abi.NoEscape"], unfollowed := true, recurses := true, named := ["spyglass/utf.spans", "internal/bytealg.MaxLen"], plainKeys := false, apart := false, laid := [("spyglass/utf.spans", laid_spyglass_utf_spans)] }
def PathStarsSaid : Prop := pathStarsRow.holds Tryd.pinned (OpenSpec.ofChange pathStarsSpec)

/-- ITS FALSE NEIGHBOUR: 'it returns false'. Refute it at one input. -/
def pathStarsWrong : ChangeSpec := { name := "pathStars", fn := fun _ => fun
  | [d] => { results := [.lit (.bool false)], args := [d] }
  | _ => none }
def PathStarsWrongFalsely : Prop := pathStarsRow.holds Tryd.pinned (OpenSpec.ofChange pathStarsWrong)

/- THE SECOND FORM. 'bulk': how many values and letters a reading holds, each counted each time it is reached (what is shared counts as often as it is met; a slice's spare places count too). A statement '..UptoSaid' is the law's where the arguments, and the package variables that the reading takes, are together of bulk at most 1048576: NARROWER than '..Said'. Prove '..Said' where nothing that the law and all that it calls make is longer than what came in: it says more and counts as full. Else prove '..UptoSaid'. A law counts once. -/
mutual
def uptoBulk {H : Type} : DataW H → Nat
  | .lit (.string bytes) => bytes.length + 1
  | .lit _ => 1
  | .nil => 1
  | .ptr d => uptoBulk d + 1
  | .slice elems spare => uptoBulkAll elems + uptoBulkAll spare + 1
  | .agg parts => uptoBulkAll parts + 1
  | .iface _ d => uptoBulk d + 1
  | .map entries => uptoBulkEntries entries + 1
  | .held _ => 1
def uptoBulkAll {H : Type} : List (DataW H) → Nat
  | [] => 0
  | d :: r => uptoBulk d + uptoBulkAll r
def uptoBulkEntries {H : Type} : List (Lit × DataW H) → Nat
  | [] => 0
  | x :: r => uptoBulkEntry x + uptoBulkEntries r
def uptoBulkEntry {H : Type} : Lit × DataW H → Nat
  | (.string bytes, d) => bytes.length + uptoBulk d + 1
  | (_, d) => uptoBulk d + 1
 end
def uptoSmall : (H : Type) → List (DataW H) → Bool := fun _ ds => decide (uptoBulkAll ds ≤ 1048576)
def OpenSpec.upto (s : _root_.Go.ChangeSpec) : _root_.Go.OpenSpec := { _root_.Go.OpenSpec.ofChange s with cond := some uptoSmall }

/-- 'spyglasslaw11.KeysLists', WHERE WHAT IT READS IS OF BULK AT MOST 1048576: true; the input reads as it did. -/
def keysListsUptoRow : OpenClaim := { program := "ytoknglpfchjbjaadoor", sum := "23b79e902971ae974565a9226e5468cfc45e9d24cdbe506b06bd28b0c07d5847", func := "spyglass/spyglasslaw11.KeysLists", spec := "keysLists", unfollowed := true, recurses := true, named := ["spyglass/utf.spans"], plainKeys := false, apart := false, laid := [("spyglass/utf.spans", laid_spyglass_utf_spans)], narrowed := true }
def KeysListsUptoSaid : Prop := keysListsUptoRow.holds Tryd.pinned (OpenSpec.upto keysListsSpec)

/-- 'spyglasslaw16.PathParts', WHERE WHAT IT READS IS OF BULK AT MOST 1048576: true; the input reads as it did. -/
def pathPartsUptoRow : OpenClaim := { program := "ytoknglpfchjbjaadoor", sum := "23b79e902971ae974565a9226e5468cfc45e9d24cdbe506b06bd28b0c07d5847", func := "spyglass/spyglasslaw16.PathParts", spec := "pathParts", inPlace := ["internal/bytealg.IndexByteString", "internal/bytealg.IndexString", "internal/abi.NoEscape"], unfollowed := true, recurses := true, named := ["internal/bytealg.MaxLen", "spyglass/utf.spans"], plainKeys := false, apart := false, laid := [("spyglass/utf.spans", laid_spyglass_utf_spans)], narrowed := true }
def PathPartsUptoSaid : Prop := pathPartsUptoRow.holds Tryd.pinned (OpenSpec.upto pathPartsSpec)

/-- 'spyglasslaw16.PathStars', WHERE WHAT IT READS IS OF BULK AT MOST 1048576: true; the input reads as it did. -/
def pathStarsUptoRow : OpenClaim := { program := "ytoknglpfchjbjaadoor", sum := "23b79e902971ae974565a9226e5468cfc45e9d24cdbe506b06bd28b0c07d5847", func := "spyglass/spyglasslaw16.PathStars", spec := "pathStars", inPlace := ["internal/bytealg.IndexByteString", "internal/bytealg.IndexString", "internal/abi.NoEscape"], unfollowed := true, recurses := true, named := ["spyglass/utf.spans", "internal/bytealg.MaxLen"], plainKeys := false, apart := false, laid := [("spyglass/utf.spans", laid_spyglass_utf_spans)], narrowed := true }
def PathStarsUptoSaid : Prop := pathStarsUptoRow.holds Tryd.pinned (OpenSpec.upto pathStarsSpec)

end Rows
end Go.Proofs.YtoknglpfchjbjaaDoor
