/-
  No cell of these rows narrows 'for every input' (looked for: loops, veiled, ifaces, maps, wideKeys, modest, calm, conditions, laid).
  DERIVED. THE GIVEN ROWS OF THIS SEAT. 3 by the template 'for every input the law returns true; each argument reads behind the call as it read before'; 0 by the template 'total and deterministic' (their statements: YtglpcphkdgmdeaaTotals.lean).
  GIVEN WITH THE SEED: the statements are not yours to turn. If you find one false, say at which input.
  Laid BY PROGRAM, IN A SANDBOX (cutbox-rows.mjs): the forced cells as the released guide's own fill.sh prints them over the translation 87bf4be8678d1f2e… (all of the seat's roots in one cut). By AI agents, Wed Nov 11 2026. No macro, syntax, notation, axiom, sorry.
-/
import Derived.Test.YtglpcphkdgmdeaaChecked
import GoSem.Claim
import GoSem.ClaimJoined
import GoSem.ClaimMapViews
import Derived.JoinedTies
import Derived.KernelRfl
namespace Go.Proofs.Ytglpcphkdgmdeaa
/- THE CELL 'sum', in the pinned program and in every row, IS THE sha256 OF THE DUMP (.gsa) THAT YtglpcphkdgmdeaaProg.lean LOADS. Nothing in Lean hashes anything: it is a label: what it is worth is what the hold of that sum in a sandbox is worth. -/
noncomputable def Try.pinned : Pinned := { name := "ytglpcphkdgmdeaa", sum := "87bf4be8678d1f2e2db21f8c1da1213a27fbda932430b692bdcae937be25b1b2", checked := Try.checked }
namespace Rows
def none {H : Type} : Left H := { results := [], args := [] }

/-- 'laws.FnExactCostsValid': WHATEVER THE INPUT: true; the input reads as it did. -/
def fnExactCostsValidSpec : ChangeSpec := { name := "fnExactCostsValid", fn := fun _ => fun
  | [d] => { results := [.lit (.bool true)], args := [d] }
  | _ => none }
def fnExactCostsValidRow : OpenClaim := { program := "ytglpcphkdgmdeaa", sum := "87bf4be8678d1f2e2db21f8c1da1213a27fbda932430b692bdcae937be25b1b2", func := "loop.example/softwareradio/laws.FnExactCostsValid", spec := "fnExactCostsValid", apart := false }
def FnExactCostsValidSaid : Prop := fnExactCostsValidRow.holds Try.pinned (OpenSpec.ofChange fnExactCostsValidSpec)

/-- ITS FALSE NEIGHBOUR: 'it returns false'. Refute it at one input. -/
def fnExactCostsValidWrong : ChangeSpec := { name := "fnExactCostsValid", fn := fun _ => fun
  | [d] => { results := [.lit (.bool false)], args := [d] }
  | _ => none }
def FnExactCostsValidWrongFalsely : Prop := fnExactCostsValidRow.holds Try.pinned (OpenSpec.ofChange fnExactCostsValidWrong)

/-- 'laws.FnCostsValid': WHATEVER THE INPUT: true; the input reads as it did. -/
def fnCostsValidSpec : ChangeSpec := { name := "fnCostsValid", fn := fun _ => fun
  | [d] => { results := [.lit (.bool true)], args := [d] }
  | _ => none }
def fnCostsValidRow : OpenClaim := { program := "ytglpcphkdgmdeaa", sum := "87bf4be8678d1f2e2db21f8c1da1213a27fbda932430b692bdcae937be25b1b2", func := "loop.example/softwareradio/laws.FnCostsValid", spec := "fnCostsValid", apart := false }
def FnCostsValidSaid : Prop := fnCostsValidRow.holds Try.pinned (OpenSpec.ofChange fnCostsValidSpec)

/-- ITS FALSE NEIGHBOUR: 'it returns false'. Refute it at one input. -/
def fnCostsValidWrong : ChangeSpec := { name := "fnCostsValid", fn := fun _ => fun
  | [d] => { results := [.lit (.bool false)], args := [d] }
  | _ => none }
def FnCostsValidWrongFalsely : Prop := fnCostsValidRow.holds Try.pinned (OpenSpec.ofChange fnCostsValidWrong)

/-- 'laws.FnExactCutLink': WHATEVER THE INPUT: true; the input reads as it did. -/
def fnExactCutLinkSpec : ChangeSpec := { name := "fnExactCutLink", fn := fun _ => fun
  | [d1, d2, d3] => { results := [.lit (.bool true)], args := [d1, d2, d3] }
  | _ => none }
def fnExactCutLinkRow : OpenClaim := { program := "ytglpcphkdgmdeaa", sum := "87bf4be8678d1f2e2db21f8c1da1213a27fbda932430b692bdcae937be25b1b2", func := "loop.example/softwareradio/laws.FnExactCutLink", spec := "fnExactCutLink", apart := false }
def FnExactCutLinkSaid : Prop := fnExactCutLinkRow.holds Try.pinned (OpenSpec.ofChange fnExactCutLinkSpec)

/-- ITS FALSE NEIGHBOUR: 'it returns false'. Refute it at one input. -/
def fnExactCutLinkWrong : ChangeSpec := { name := "fnExactCutLink", fn := fun _ => fun
  | [d1, d2, d3] => { results := [.lit (.bool false)], args := [d1, d2, d3] }
  | _ => none }
def FnExactCutLinkWrongFalsely : Prop := fnExactCutLinkRow.holds Try.pinned (OpenSpec.ofChange fnExactCutLinkWrong)

/- THE SECOND FORM. 'bulk': how many values and letters a reading holds, each counted each time it is reached (what is shared counts as often as it is met; a slice's spare places count too). A statement '..UptoSaid' is the law's where the arguments, and the package variables that the reading takes, are together of bulk at most 1048576: NARROWER than '..Said'. Prove '..Said' where nothing that the law and all that it calls make is longer than what came in: it says more and counts as full. Else prove '..UptoSaid'. A law counts once. -/
mutual
def uptoBulk {H : Type} : DataW H → Nat
  | .lit (.string bytes) => bytes.length + 1
  | .lit _ => 1
  | .nil => 1
  | .ptr d => uptoBulk d + 1
  | .slice elems spare => uptoBulkAll elems + uptoBulkAll spare + 1
  | .agg parts => uptoBulkAll parts + 1
  | .iface _ d => uptoBulk d + 1
  | .map entries => uptoBulkEntries entries + 1
  | .held _ => 1
def uptoBulkAll {H : Type} : List (DataW H) → Nat
  | [] => 0
  | d :: r => uptoBulk d + uptoBulkAll r
def uptoBulkEntries {H : Type} : List (Lit × DataW H) → Nat
  | [] => 0
  | x :: r => uptoBulkEntry x + uptoBulkEntries r
def uptoBulkEntry {H : Type} : Lit × DataW H → Nat
  | (.string bytes, d) => bytes.length + uptoBulk d + 1
  | (_, d) => uptoBulk d + 1
 end
def uptoSmall : (H : Type) → List (DataW H) → Bool := fun _ ds => decide (uptoBulkAll ds ≤ 1048576)
def OpenSpec.upto (s : _root_.Go.ChangeSpec) : _root_.Go.OpenSpec := { _root_.Go.OpenSpec.ofChange s with cond := some uptoSmall }

/-- 'laws.FnExactCostsValid', WHERE WHAT IT READS IS OF BULK AT MOST 1048576: true; the input reads as it did. -/
def fnExactCostsValidUptoRow : OpenClaim := { program := "ytglpcphkdgmdeaa", sum := "87bf4be8678d1f2e2db21f8c1da1213a27fbda932430b692bdcae937be25b1b2", func := "loop.example/softwareradio/laws.FnExactCostsValid", spec := "fnExactCostsValid", apart := false, narrowed := true }
def FnExactCostsValidUptoSaid : Prop := fnExactCostsValidUptoRow.holds Try.pinned (OpenSpec.upto fnExactCostsValidSpec)

/-- 'laws.FnCostsValid', WHERE WHAT IT READS IS OF BULK AT MOST 1048576: true; the input reads as it did. -/
def fnCostsValidUptoRow : OpenClaim := { program := "ytglpcphkdgmdeaa", sum := "87bf4be8678d1f2e2db21f8c1da1213a27fbda932430b692bdcae937be25b1b2", func := "loop.example/softwareradio/laws.FnCostsValid", spec := "fnCostsValid", apart := false, narrowed := true }
def FnCostsValidUptoSaid : Prop := fnCostsValidUptoRow.holds Try.pinned (OpenSpec.upto fnCostsValidSpec)

/-- 'laws.FnExactCutLink', WHERE WHAT IT READS IS OF BULK AT MOST 1048576: true; the input reads as it did. -/
def fnExactCutLinkUptoRow : OpenClaim := { program := "ytglpcphkdgmdeaa", sum := "87bf4be8678d1f2e2db21f8c1da1213a27fbda932430b692bdcae937be25b1b2", func := "loop.example/softwareradio/laws.FnExactCutLink", spec := "fnExactCutLink", apart := false, narrowed := true }
def FnExactCutLinkUptoSaid : Prop := fnExactCutLinkUptoRow.holds Try.pinned (OpenSpec.upto fnExactCutLinkSpec)

end Rows
end Go.Proofs.Ytglpcphkdgmdeaa
