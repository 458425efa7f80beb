/-
  No cell of these rows narrows 'for every input' (looked for: loops, veiled, ifaces, maps, wideKeys, modest, calm, conditions, laid).
  DERIVED. THE GIVEN ROWS OF THIS SEAT. 2 by the template 'for every input the law returns true; each argument reads behind the call as it read before'; 0 by the template 'total and deterministic' (their statements: YtnibmainjgcmaaaTotals.lean).
  GIVEN WITH THE SEED: the statements are not yours to turn. If you find one false, say at which input.
  Laid BY PROGRAM, IN A SANDBOX (cutbox-rows.mjs): the forced cells as the released guide's own fill.sh prints them over the translation c9e60279b3479fd5… (all of the seat's roots in one cut). By AI agents, Wed Nov 11 2026. No macro, syntax, notation, axiom, sorry.
-/
import Derived.Test.YtnibmainjgcmaaaChecked
import GoSem.Claim
import GoSem.ClaimJoined
import GoSem.ClaimMapViews
import Derived.JoinedTies
import Derived.KernelRfl
namespace Go.Proofs.Ytnibmainjgcmaaa
/- THE CELL 'sum', in the pinned program and in every row, IS THE sha256 OF THE DUMP (.gsa) THAT YtnibmainjgcmaaaProg.lean LOADS. Nothing in Lean hashes anything: it is a label: what it is worth is what the hold of that sum in a sandbox is worth. -/
noncomputable def Try.pinned : Pinned := { name := "ytnibmainjgcmaaa", sum := "c9e60279b3479fd598b960ee04cb34a9a11f0d047ef35fb5daae7a6ec1cae25f", checked := Try.checked }
namespace Rows
def none {H : Type} : Left H := { results := [], args := [] }

/-- 'laws.FnLangfordThere': WHATEVER THE INPUT: true; the input reads as it did. -/
def fnLangfordThereSpec : ChangeSpec := { name := "fnLangfordThere", fn := fun _ => fun
  | [d1, d2] => { results := [.lit (.bool true)], args := [d1, d2] }
  | _ => none }
def fnLangfordThereRow : OpenClaim := { program := "ytnibmainjgcmaaa", sum := "c9e60279b3479fd598b960ee04cb34a9a11f0d047ef35fb5daae7a6ec1cae25f", func := "loop.example/g01232/laws.FnLangfordThere", spec := "fnLangfordThere", unfollowed := true, recurses := true, apart := false }
def FnLangfordThereSaid : Prop := fnLangfordThereRow.holds Try.pinned (OpenSpec.ofChange fnLangfordThereSpec)

/-- ITS FALSE NEIGHBOUR: 'it returns false'. Refute it at one input. -/
def fnLangfordThereWrong : ChangeSpec := { name := "fnLangfordThere", fn := fun _ => fun
  | [d1, d2] => { results := [.lit (.bool false)], args := [d1, d2] }
  | _ => none }
def FnLangfordThereWrongFalsely : Prop := fnLangfordThereRow.holds Try.pinned (OpenSpec.ofChange fnLangfordThereWrong)

/-- 'laws.FnTreesLabelled': WHATEVER THE INPUT: true; the input reads as it did. -/
def fnTreesLabelledSpec : ChangeSpec := { name := "fnTreesLabelled", fn := fun _ => fun
  | [d1, d2] => { results := [.lit (.bool true)], args := [d1, d2] }
  | _ => none }
def fnTreesLabelledRow : OpenClaim := { program := "ytnibmainjgcmaaa", sum := "c9e60279b3479fd598b960ee04cb34a9a11f0d047ef35fb5daae7a6ec1cae25f", func := "loop.example/g01232/laws.FnTreesLabelled", spec := "fnTreesLabelled", unfollowed := true, recurses := true, apart := false }
def FnTreesLabelledSaid : Prop := fnTreesLabelledRow.holds Try.pinned (OpenSpec.ofChange fnTreesLabelledSpec)

/-- ITS FALSE NEIGHBOUR: 'it returns false'. Refute it at one input. -/
def fnTreesLabelledWrong : ChangeSpec := { name := "fnTreesLabelled", fn := fun _ => fun
  | [d1, d2] => { results := [.lit (.bool false)], args := [d1, d2] }
  | _ => none }
def FnTreesLabelledWrongFalsely : Prop := fnTreesLabelledRow.holds Try.pinned (OpenSpec.ofChange fnTreesLabelledWrong)

/- THE SECOND FORM. 'bulk': how many values and letters a reading holds, each counted each time it is reached (what is shared counts as often as it is met; a slice's spare places count too). A statement '..UptoSaid' is the law's where the arguments, and the package variables that the reading takes, are together of bulk at most 1048576: NARROWER than '..Said'. Prove '..Said' where nothing that the law and all that it calls make is longer than what came in: it says more and counts as full. Else prove '..UptoSaid'. A law counts once. -/
mutual
def uptoBulk {H : Type} : DataW H → Nat
  | .lit (.string bytes) => bytes.length + 1
  | .lit _ => 1
  | .nil => 1
  | .ptr d => uptoBulk d + 1
  | .slice elems spare => uptoBulkAll elems + uptoBulkAll spare + 1
  | .agg parts => uptoBulkAll parts + 1
  | .iface _ d => uptoBulk d + 1
  | .map entries => uptoBulkEntries entries + 1
  | .held _ => 1
def uptoBulkAll {H : Type} : List (DataW H) → Nat
  | [] => 0
  | d :: r => uptoBulk d + uptoBulkAll r
def uptoBulkEntries {H : Type} : List (Lit × DataW H) → Nat
  | [] => 0
  | x :: r => uptoBulkEntry x + uptoBulkEntries r
def uptoBulkEntry {H : Type} : Lit × DataW H → Nat
  | (.string bytes, d) => bytes.length + uptoBulk d + 1
  | (_, d) => uptoBulk d + 1
 end
def uptoSmall : (H : Type) → List (DataW H) → Bool := fun _ ds => decide (uptoBulkAll ds ≤ 1048576)
def OpenSpec.upto (s : _root_.Go.ChangeSpec) : _root_.Go.OpenSpec := { _root_.Go.OpenSpec.ofChange s with cond := some uptoSmall }

/-- 'laws.FnLangfordThere', WHERE WHAT IT READS IS OF BULK AT MOST 1048576: true; the input reads as it did. -/
def fnLangfordThereUptoRow : OpenClaim := { program := "ytnibmainjgcmaaa", sum := "c9e60279b3479fd598b960ee04cb34a9a11f0d047ef35fb5daae7a6ec1cae25f", func := "loop.example/g01232/laws.FnLangfordThere", spec := "fnLangfordThere", unfollowed := true, recurses := true, apart := false, narrowed := true }
def FnLangfordThereUptoSaid : Prop := fnLangfordThereUptoRow.holds Try.pinned (OpenSpec.upto fnLangfordThereSpec)

/-- 'laws.FnTreesLabelled', WHERE WHAT IT READS IS OF BULK AT MOST 1048576: true; the input reads as it did. -/
def fnTreesLabelledUptoRow : OpenClaim := { program := "ytnibmainjgcmaaa", sum := "c9e60279b3479fd598b960ee04cb34a9a11f0d047ef35fb5daae7a6ec1cae25f", func := "loop.example/g01232/laws.FnTreesLabelled", spec := "fnTreesLabelled", unfollowed := true, recurses := true, apart := false, narrowed := true }
def FnTreesLabelledUptoSaid : Prop := fnTreesLabelledUptoRow.holds Try.pinned (OpenSpec.upto fnTreesLabelledSpec)

end Rows
end Go.Proofs.Ytnibmainjgcmaaa
