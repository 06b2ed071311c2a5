/-
  No cell of these rows narrows 'for every input' (looked for: loops, veiled, ifaces, maps, wideKeys, modest, calm, conditions, laid).
  DERIVED. THE GIVEN ROWS OF THIS SEAT. 4 by the template 'for every input the law returns true; each argument reads behind the call as it read before'; 0 by the template 'total and deterministic' (their statements: YtnfncjodmkhafaaTotals.lean).
  GIVEN WITH THE SEED: the statements are not yours to turn. If you find one false, say at which input.
  Laid BY PROGRAM, IN A SANDBOX (cutbox-rows.mjs): the forced cells as the released guide's own fill.sh prints them over the translation 78ea71c8b05b06d0… (all of the seat's roots in one cut). By AI agents, Wed Nov 11 2026. No macro, syntax, notation, axiom, sorry.
-/
import Derived.Test.YtnfncjodmkhafaaChecked
import GoSem.Claim
import GoSem.ClaimJoined
import GoSem.ClaimMapViews
import Derived.JoinedTies
import Derived.KernelRfl
namespace Go.Proofs.Ytnfncjodmkhafaa
/- THE CELL 'sum', in the pinned program and in every row, IS THE sha256 OF THE DUMP (.gsa) THAT YtnfncjodmkhafaaProg.lean LOADS. Nothing in Lean hashes anything: it is a label: what it is worth is what the hold of that sum in a sandbox is worth. -/
noncomputable def Try.pinned : Pinned := { name := "ytnfncjodmkhafaa", sum := "78ea71c8b05b06d0fd7d6ae84fb942f8ce3370e2f35b86334cde7e75b7015c62", checked := Try.checked }
namespace Rows
def none {H : Type} : Left H := { results := [], args := [] }

/-- 'laws.FnBinds': WHATEVER THE INPUT: true; the input reads as it did. -/
def fnBindsSpec : ChangeSpec := { name := "fnBinds", fn := fun _ => fun
  | [d] => { results := [.lit (.bool true)], args := [d] }
  | _ => none }
def fnBindsRow : OpenClaim := { program := "ytnfncjodmkhafaa", sum := "78ea71c8b05b06d0fd7d6ae84fb942f8ce3370e2f35b86334cde7e75b7015c62", func := "loop.example/g00070/laws.FnBinds", spec := "fnBinds", unfollowed := true, recurses := true, apart := false }
def FnBindsSaid : Prop := fnBindsRow.holds Try.pinned (OpenSpec.ofChange fnBindsSpec)

/-- ITS FALSE NEIGHBOUR: 'it returns false'. Refute it at one input. -/
def fnBindsWrong : ChangeSpec := { name := "fnBinds", fn := fun _ => fun
  | [d] => { results := [.lit (.bool false)], args := [d] }
  | _ => none }
def FnBindsWrongFalsely : Prop := fnBindsRow.holds Try.pinned (OpenSpec.ofChange fnBindsWrong)

/-- 'laws.FnExactSizes': WHATEVER THE INPUT: true; the input reads as it did. -/
def fnExactSizesSpec : ChangeSpec := { name := "fnExactSizes", fn := fun _ => fun
  | [d] => { results := [.lit (.bool true)], args := [d] }
  | _ => none }
def fnExactSizesRow : OpenClaim := { program := "ytnfncjodmkhafaa", sum := "78ea71c8b05b06d0fd7d6ae84fb942f8ce3370e2f35b86334cde7e75b7015c62", func := "loop.example/g00070/laws.FnExactSizes", spec := "fnExactSizes", unfollowed := true, recurses := true, apart := false }
def FnExactSizesSaid : Prop := fnExactSizesRow.holds Try.pinned (OpenSpec.ofChange fnExactSizesSpec)

/-- ITS FALSE NEIGHBOUR: 'it returns false'. Refute it at one input. -/
def fnExactSizesWrong : ChangeSpec := { name := "fnExactSizes", fn := fun _ => fun
  | [d] => { results := [.lit (.bool false)], args := [d] }
  | _ => none }
def FnExactSizesWrongFalsely : Prop := fnExactSizesRow.holds Try.pinned (OpenSpec.ofChange fnExactSizesWrong)

/-- 'laws.FnLexAgain': WHATEVER THE INPUT: true; the input reads as it did. -/
def fnLexAgainSpec : ChangeSpec := { name := "fnLexAgain", fn := fun _ => fun
  | [d] => { results := [.lit (.bool true)], args := [d] }
  | _ => none }
def fnLexAgainRow : OpenClaim := { program := "ytnfncjodmkhafaa", sum := "78ea71c8b05b06d0fd7d6ae84fb942f8ce3370e2f35b86334cde7e75b7015c62", func := "loop.example/g00070/laws.FnLexAgain", spec := "fnLexAgain", unfollowed := true, recurses := true, apart := false }
def FnLexAgainSaid : Prop := fnLexAgainRow.holds Try.pinned (OpenSpec.ofChange fnLexAgainSpec)

/-- ITS FALSE NEIGHBOUR: 'it returns false'. Refute it at one input. -/
def fnLexAgainWrong : ChangeSpec := { name := "fnLexAgain", fn := fun _ => fun
  | [d] => { results := [.lit (.bool false)], args := [d] }
  | _ => none }
def FnLexAgainWrongFalsely : Prop := fnLexAgainRow.holds Try.pinned (OpenSpec.ofChange fnLexAgainWrong)

/-- 'laws.FnNoStuck': WHATEVER THE INPUT: true; the input reads as it did. -/
def fnNoStuckSpec : ChangeSpec := { name := "fnNoStuck", fn := fun _ => fun
  | [d] => { results := [.lit (.bool true)], args := [d] }
  | _ => none }
def fnNoStuckRow : OpenClaim := { program := "ytnfncjodmkhafaa", sum := "78ea71c8b05b06d0fd7d6ae84fb942f8ce3370e2f35b86334cde7e75b7015c62", func := "loop.example/g00070/laws.FnNoStuck", spec := "fnNoStuck", unfollowed := true, recurses := true, apart := false }
def FnNoStuckSaid : Prop := fnNoStuckRow.holds Try.pinned (OpenSpec.ofChange fnNoStuckSpec)

/-- ITS FALSE NEIGHBOUR: 'it returns false'. Refute it at one input. -/
def fnNoStuckWrong : ChangeSpec := { name := "fnNoStuck", fn := fun _ => fun
  | [d] => { results := [.lit (.bool false)], args := [d] }
  | _ => none }
def FnNoStuckWrongFalsely : Prop := fnNoStuckRow.holds Try.pinned (OpenSpec.ofChange fnNoStuckWrong)

/- THE SECOND FORM. 'bulk': how many values and letters a reading holds, each counted each time it is reached (what is shared counts as often as it is met; a slice's spare places count too). A statement '..UptoSaid' is the law's where the arguments, and the package variables that the reading takes, are together of bulk at most 1048576: NARROWER than '..Said'. Prove '..Said' where nothing that the law and all that it calls make is longer than what came in: it says more and counts as full. Else prove '..UptoSaid'. A law counts once. -/
mutual
def uptoBulk {H : Type} : DataW H → Nat
  | .lit (.string bytes) => bytes.length + 1
  | .lit _ => 1
  | .nil => 1
  | .ptr d => uptoBulk d + 1
  | .slice elems spare => uptoBulkAll elems + uptoBulkAll spare + 1
  | .agg parts => uptoBulkAll parts + 1
  | .iface _ d => uptoBulk d + 1
  | .map entries => uptoBulkEntries entries + 1
  | .held _ => 1
def uptoBulkAll {H : Type} : List (DataW H) → Nat
  | [] => 0
  | d :: r => uptoBulk d + uptoBulkAll r
def uptoBulkEntries {H : Type} : List (Lit × DataW H) → Nat
  | [] => 0
  | x :: r => uptoBulkEntry x + uptoBulkEntries r
def uptoBulkEntry {H : Type} : Lit × DataW H → Nat
  | (.string bytes, d) => bytes.length + uptoBulk d + 1
  | (_, d) => uptoBulk d + 1
 end
def uptoSmall : (H : Type) → List (DataW H) → Bool := fun _ ds => decide (uptoBulkAll ds ≤ 1048576)
def OpenSpec.upto (s : _root_.Go.ChangeSpec) : _root_.Go.OpenSpec := { _root_.Go.OpenSpec.ofChange s with cond := some uptoSmall }

/-- 'laws.FnBinds', WHERE WHAT IT READS IS OF BULK AT MOST 1048576: true; the input reads as it did. -/
def fnBindsUptoRow : OpenClaim := { program := "ytnfncjodmkhafaa", sum := "78ea71c8b05b06d0fd7d6ae84fb942f8ce3370e2f35b86334cde7e75b7015c62", func := "loop.example/g00070/laws.FnBinds", spec := "fnBinds", unfollowed := true, recurses := true, apart := false, narrowed := true }
def FnBindsUptoSaid : Prop := fnBindsUptoRow.holds Try.pinned (OpenSpec.upto fnBindsSpec)

/-- 'laws.FnExactSizes', WHERE WHAT IT READS IS OF BULK AT MOST 1048576: true; the input reads as it did. -/
def fnExactSizesUptoRow : OpenClaim := { program := "ytnfncjodmkhafaa", sum := "78ea71c8b05b06d0fd7d6ae84fb942f8ce3370e2f35b86334cde7e75b7015c62", func := "loop.example/g00070/laws.FnExactSizes", spec := "fnExactSizes", unfollowed := true, recurses := true, apart := false, narrowed := true }
def FnExactSizesUptoSaid : Prop := fnExactSizesUptoRow.holds Try.pinned (OpenSpec.upto fnExactSizesSpec)

/-- 'laws.FnLexAgain', WHERE WHAT IT READS IS OF BULK AT MOST 1048576: true; the input reads as it did. -/
def fnLexAgainUptoRow : OpenClaim := { program := "ytnfncjodmkhafaa", sum := "78ea71c8b05b06d0fd7d6ae84fb942f8ce3370e2f35b86334cde7e75b7015c62", func := "loop.example/g00070/laws.FnLexAgain", spec := "fnLexAgain", unfollowed := true, recurses := true, apart := false, narrowed := true }
def FnLexAgainUptoSaid : Prop := fnLexAgainUptoRow.holds Try.pinned (OpenSpec.upto fnLexAgainSpec)

/-- 'laws.FnNoStuck', WHERE WHAT IT READS IS OF BULK AT MOST 1048576: true; the input reads as it did. -/
def fnNoStuckUptoRow : OpenClaim := { program := "ytnfncjodmkhafaa", sum := "78ea71c8b05b06d0fd7d6ae84fb942f8ce3370e2f35b86334cde7e75b7015c62", func := "loop.example/g00070/laws.FnNoStuck", spec := "fnNoStuck", unfollowed := true, recurses := true, apart := false, narrowed := true }
def FnNoStuckUptoSaid : Prop := fnNoStuckUptoRow.holds Try.pinned (OpenSpec.upto fnNoStuckSpec)

end Rows
end Go.Proofs.Ytnfncjodmkhafaa
