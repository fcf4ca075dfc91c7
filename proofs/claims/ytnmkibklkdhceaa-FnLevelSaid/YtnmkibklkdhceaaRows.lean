/-
  No cell of these rows narrows 'for every input' (looked for: loops, veiled, ifaces, maps, wideKeys, modest, calm, conditions, laid).
  DERIVED. THE GIVEN ROWS OF THIS SEAT. 8 by the template 'for every input the law returns true; each argument reads behind the call as it read before'; 0 by the template 'total and deterministic' (their statements: YtnmkibklkdhceaaTotals.lean).
  GIVEN WITH THE SEED: the statements are not yours to turn. If you find one false, say at which input.
  Laid BY PROGRAM, IN A SANDBOX (cutbox-rows.mjs): the forced cells as the released guide's own fill.sh prints them over the translation 3aa22e51f8579ff2… (all of the seat's roots in one cut). By AI agents, Wed Nov 11 2026. No macro, syntax, notation, axiom, sorry.
-/
import Derived.Test.YtnmkibklkdhceaaChecked
import GoSem.Claim
import GoSem.ClaimJoined
import GoSem.ClaimMapViews
import Derived.JoinedTies
import Derived.KernelRfl
namespace Go.Proofs.Ytnmkibklkdhceaa
/- THE CELL 'sum', in the pinned program and in every row, IS THE sha256 OF THE DUMP (.gsa) THAT YtnmkibklkdhceaaProg.lean LOADS. Nothing in Lean hashes anything: it is a label: what it is worth is what the hold of that sum in a sandbox is worth. -/
noncomputable def Try.pinned : Pinned := { name := "ytnmkibklkdhceaa", sum := "3aa22e51f8579ff2a0f19716c123c8f66946052b79f48913e092298f9e116cd3", checked := Try.checked }
namespace Rows
def none {H : Type} : Left H := { results := [], args := [] }

/-- 'laws.FnExactEven': WHATEVER THE INPUT: true; the input reads as it did. -/
def fnExactEvenSpec : ChangeSpec := { name := "fnExactEven", fn := fun _ => fun
  | [d] => { results := [.lit (.bool true)], args := [d] }
  | _ => none }
def fnExactEvenRow : OpenClaim := { program := "ytnmkibklkdhceaa", sum := "3aa22e51f8579ff2a0f19716c123c8f66946052b79f48913e092298f9e116cd3", func := "loop.example/g00801/laws.FnExactEven", spec := "fnExactEven", apart := false }
def FnExactEvenSaid : Prop := fnExactEvenRow.holds Try.pinned (OpenSpec.ofChange fnExactEvenSpec)

/-- ITS FALSE NEIGHBOUR: 'it returns false'. Refute it at one input. -/
def fnExactEvenWrong : ChangeSpec := { name := "fnExactEven", fn := fun _ => fun
  | [d] => { results := [.lit (.bool false)], args := [d] }
  | _ => none }
def FnExactEvenWrongFalsely : Prop := fnExactEvenRow.holds Try.pinned (OpenSpec.ofChange fnExactEvenWrong)

/-- 'laws.FnExactSpread': WHATEVER THE INPUT: true; the input reads as it did. -/
def fnExactSpreadSpec : ChangeSpec := { name := "fnExactSpread", fn := fun _ => fun
  | [d1, d2] => { results := [.lit (.bool true)], args := [d1, d2] }
  | _ => none }
def fnExactSpreadRow : OpenClaim := { program := "ytnmkibklkdhceaa", sum := "3aa22e51f8579ff2a0f19716c123c8f66946052b79f48913e092298f9e116cd3", func := "loop.example/g00801/laws.FnExactSpread", spec := "fnExactSpread", apart := false }
def FnExactSpreadSaid : Prop := fnExactSpreadRow.holds Try.pinned (OpenSpec.ofChange fnExactSpreadSpec)

/-- ITS FALSE NEIGHBOUR: 'it returns false'. Refute it at one input. -/
def fnExactSpreadWrong : ChangeSpec := { name := "fnExactSpread", fn := fun _ => fun
  | [d1, d2] => { results := [.lit (.bool false)], args := [d1, d2] }
  | _ => none }
def FnExactSpreadWrongFalsely : Prop := fnExactSpreadRow.holds Try.pinned (OpenSpec.ofChange fnExactSpreadWrong)

/-- 'laws.FnLevel': WHATEVER THE INPUT: true; the input reads as it did. -/
def fnLevelSpec : ChangeSpec := { name := "fnLevel", fn := fun _ => fun
  | [d] => { results := [.lit (.bool true)], args := [d] }
  | _ => none }
def fnLevelRow : OpenClaim := { program := "ytnmkibklkdhceaa", sum := "3aa22e51f8579ff2a0f19716c123c8f66946052b79f48913e092298f9e116cd3", func := "loop.example/g00801/laws.FnLevel", spec := "fnLevel", apart := false }
def FnLevelSaid : Prop := fnLevelRow.holds Try.pinned (OpenSpec.ofChange fnLevelSpec)

/-- ITS FALSE NEIGHBOUR: 'it returns false'. Refute it at one input. -/
def fnLevelWrong : ChangeSpec := { name := "fnLevel", fn := fun _ => fun
  | [d] => { results := [.lit (.bool false)], args := [d] }
  | _ => none }
def FnLevelWrongFalsely : Prop := fnLevelRow.holds Try.pinned (OpenSpec.ofChange fnLevelWrong)

/-- 'laws.FnExactNeeds': WHATEVER THE INPUT: true; the input reads as it did. -/
def fnExactNeedsSpec : ChangeSpec := { name := "fnExactNeeds", fn := fun _ => fun
  | [d1, d2, d3] => { results := [.lit (.bool true)], args := [d1, d2, d3] }
  | _ => none }
def fnExactNeedsRow : OpenClaim := { program := "ytnmkibklkdhceaa", sum := "3aa22e51f8579ff2a0f19716c123c8f66946052b79f48913e092298f9e116cd3", func := "loop.example/g00801/laws.FnExactNeeds", spec := "fnExactNeeds", apart := false }
def FnExactNeedsSaid : Prop := fnExactNeedsRow.holds Try.pinned (OpenSpec.ofChange fnExactNeedsSpec)

/-- ITS FALSE NEIGHBOUR: 'it returns false'. Refute it at one input. -/
def fnExactNeedsWrong : ChangeSpec := { name := "fnExactNeeds", fn := fun _ => fun
  | [d1, d2, d3] => { results := [.lit (.bool false)], args := [d1, d2, d3] }
  | _ => none }
def FnExactNeedsWrongFalsely : Prop := fnExactNeedsRow.holds Try.pinned (OpenSpec.ofChange fnExactNeedsWrong)

/-- 'laws.FnNeeds': WHATEVER THE INPUT: true; the input reads as it did. -/
def fnNeedsSpec : ChangeSpec := { name := "fnNeeds", fn := fun _ => fun
  | [d] => { results := [.lit (.bool true)], args := [d] }
  | _ => none }
def fnNeedsRow : OpenClaim := { program := "ytnmkibklkdhceaa", sum := "3aa22e51f8579ff2a0f19716c123c8f66946052b79f48913e092298f9e116cd3", func := "loop.example/g00801/laws.FnNeeds", spec := "fnNeeds", apart := false }
def FnNeedsSaid : Prop := fnNeedsRow.holds Try.pinned (OpenSpec.ofChange fnNeedsSpec)

/-- ITS FALSE NEIGHBOUR: 'it returns false'. Refute it at one input. -/
def fnNeedsWrong : ChangeSpec := { name := "fnNeeds", fn := fun _ => fun
  | [d] => { results := [.lit (.bool false)], args := [d] }
  | _ => none }
def FnNeedsWrongFalsely : Prop := fnNeedsRow.holds Try.pinned (OpenSpec.ofChange fnNeedsWrong)

/-- 'laws.FnExactGives': WHATEVER THE INPUT: true; the input reads as it did. -/
def fnExactGivesSpec : ChangeSpec := { name := "fnExactGives", fn := fun _ => fun
  | [d1, d2, d3] => { results := [.lit (.bool true)], args := [d1, d2, d3] }
  | _ => none }
def fnExactGivesRow : OpenClaim := { program := "ytnmkibklkdhceaa", sum := "3aa22e51f8579ff2a0f19716c123c8f66946052b79f48913e092298f9e116cd3", func := "loop.example/g00801/laws.FnExactGives", spec := "fnExactGives", apart := false }
def FnExactGivesSaid : Prop := fnExactGivesRow.holds Try.pinned (OpenSpec.ofChange fnExactGivesSpec)

/-- ITS FALSE NEIGHBOUR: 'it returns false'. Refute it at one input. -/
def fnExactGivesWrong : ChangeSpec := { name := "fnExactGives", fn := fun _ => fun
  | [d1, d2, d3] => { results := [.lit (.bool false)], args := [d1, d2, d3] }
  | _ => none }
def FnExactGivesWrongFalsely : Prop := fnExactGivesRow.holds Try.pinned (OpenSpec.ofChange fnExactGivesWrong)

/-- 'laws.FnExactLevel': WHATEVER THE INPUT: true; the input reads as it did. -/
def fnExactLevelSpec : ChangeSpec := { name := "fnExactLevel", fn := fun _ => fun
  | [d] => { results := [.lit (.bool true)], args := [d] }
  | _ => none }
def fnExactLevelRow : OpenClaim := { program := "ytnmkibklkdhceaa", sum := "3aa22e51f8579ff2a0f19716c123c8f66946052b79f48913e092298f9e116cd3", func := "loop.example/g00801/laws.FnExactLevel", spec := "fnExactLevel", apart := false }
def FnExactLevelSaid : Prop := fnExactLevelRow.holds Try.pinned (OpenSpec.ofChange fnExactLevelSpec)

/-- ITS FALSE NEIGHBOUR: 'it returns false'. Refute it at one input. -/
def fnExactLevelWrong : ChangeSpec := { name := "fnExactLevel", fn := fun _ => fun
  | [d] => { results := [.lit (.bool false)], args := [d] }
  | _ => none }
def FnExactLevelWrongFalsely : Prop := fnExactLevelRow.holds Try.pinned (OpenSpec.ofChange fnExactLevelWrong)

/-- 'laws.FnExactUpAll': WHATEVER THE INPUT: true; the input reads as it did. -/
def fnExactUpAllSpec : ChangeSpec := { name := "fnExactUpAll", fn := fun _ => fun
  | [d] => { results := [.lit (.bool true)], args := [d] }
  | _ => none }
def fnExactUpAllRow : OpenClaim := { program := "ytnmkibklkdhceaa", sum := "3aa22e51f8579ff2a0f19716c123c8f66946052b79f48913e092298f9e116cd3", func := "loop.example/g00801/laws.FnExactUpAll", spec := "fnExactUpAll", apart := false }
def FnExactUpAllSaid : Prop := fnExactUpAllRow.holds Try.pinned (OpenSpec.ofChange fnExactUpAllSpec)

/-- ITS FALSE NEIGHBOUR: 'it returns false'. Refute it at one input. -/
def fnExactUpAllWrong : ChangeSpec := { name := "fnExactUpAll", fn := fun _ => fun
  | [d] => { results := [.lit (.bool false)], args := [d] }
  | _ => none }
def FnExactUpAllWrongFalsely : Prop := fnExactUpAllRow.holds Try.pinned (OpenSpec.ofChange fnExactUpAllWrong)

/- THE SECOND FORM. 'bulk': how many values and letters a reading holds, each counted each time it is reached (what is shared counts as often as it is met; a slice's spare places count too). A statement '..UptoSaid' is the law's where the arguments, and the package variables that the reading takes, are together of bulk at most 1048576: NARROWER than '..Said'. Prove '..Said' where nothing that the law and all that it calls make is longer than what came in: it says more and counts as full. Else prove '..UptoSaid'. A law counts once. -/
mutual
def uptoBulk {H : Type} : DataW H → Nat
  | .lit (.string bytes) => bytes.length + 1
  | .lit _ => 1
  | .nil => 1
  | .ptr d => uptoBulk d + 1
  | .slice elems spare => uptoBulkAll elems + uptoBulkAll spare + 1
  | .agg parts => uptoBulkAll parts + 1
  | .iface _ d => uptoBulk d + 1
  | .map entries => uptoBulkEntries entries + 1
  | .held _ => 1
def uptoBulkAll {H : Type} : List (DataW H) → Nat
  | [] => 0
  | d :: r => uptoBulk d + uptoBulkAll r
def uptoBulkEntries {H : Type} : List (Lit × DataW H) → Nat
  | [] => 0
  | x :: r => uptoBulkEntry x + uptoBulkEntries r
def uptoBulkEntry {H : Type} : Lit × DataW H → Nat
  | (.string bytes, d) => bytes.length + uptoBulk d + 1
  | (_, d) => uptoBulk d + 1
 end
def uptoSmall : (H : Type) → List (DataW H) → Bool := fun _ ds => decide (uptoBulkAll ds ≤ 1048576)
def OpenSpec.upto (s : _root_.Go.ChangeSpec) : _root_.Go.OpenSpec := { _root_.Go.OpenSpec.ofChange s with cond := some uptoSmall }

/-- 'laws.FnExactEven', WHERE WHAT IT READS IS OF BULK AT MOST 1048576: true; the input reads as it did. -/
def fnExactEvenUptoRow : OpenClaim := { program := "ytnmkibklkdhceaa", sum := "3aa22e51f8579ff2a0f19716c123c8f66946052b79f48913e092298f9e116cd3", func := "loop.example/g00801/laws.FnExactEven", spec := "fnExactEven", apart := false, narrowed := true }
def FnExactEvenUptoSaid : Prop := fnExactEvenUptoRow.holds Try.pinned (OpenSpec.upto fnExactEvenSpec)

/-- 'laws.FnExactSpread', WHERE WHAT IT READS IS OF BULK AT MOST 1048576: true; the input reads as it did. -/
def fnExactSpreadUptoRow : OpenClaim := { program := "ytnmkibklkdhceaa", sum := "3aa22e51f8579ff2a0f19716c123c8f66946052b79f48913e092298f9e116cd3", func := "loop.example/g00801/laws.FnExactSpread", spec := "fnExactSpread", apart := false, narrowed := true }
def FnExactSpreadUptoSaid : Prop := fnExactSpreadUptoRow.holds Try.pinned (OpenSpec.upto fnExactSpreadSpec)

/-- 'laws.FnLevel', WHERE WHAT IT READS IS OF BULK AT MOST 1048576: true; the input reads as it did. -/
def fnLevelUptoRow : OpenClaim := { program := "ytnmkibklkdhceaa", sum := "3aa22e51f8579ff2a0f19716c123c8f66946052b79f48913e092298f9e116cd3", func := "loop.example/g00801/laws.FnLevel", spec := "fnLevel", apart := false, narrowed := true }
def FnLevelUptoSaid : Prop := fnLevelUptoRow.holds Try.pinned (OpenSpec.upto fnLevelSpec)

/-- 'laws.FnExactNeeds', WHERE WHAT IT READS IS OF BULK AT MOST 1048576: true; the input reads as it did. -/
def fnExactNeedsUptoRow : OpenClaim := { program := "ytnmkibklkdhceaa", sum := "3aa22e51f8579ff2a0f19716c123c8f66946052b79f48913e092298f9e116cd3", func := "loop.example/g00801/laws.FnExactNeeds", spec := "fnExactNeeds", apart := false, narrowed := true }
def FnExactNeedsUptoSaid : Prop := fnExactNeedsUptoRow.holds Try.pinned (OpenSpec.upto fnExactNeedsSpec)

/-- 'laws.FnNeeds', WHERE WHAT IT READS IS OF BULK AT MOST 1048576: true; the input reads as it did. -/
def fnNeedsUptoRow : OpenClaim := { program := "ytnmkibklkdhceaa", sum := "3aa22e51f8579ff2a0f19716c123c8f66946052b79f48913e092298f9e116cd3", func := "loop.example/g00801/laws.FnNeeds", spec := "fnNeeds", apart := false, narrowed := true }
def FnNeedsUptoSaid : Prop := fnNeedsUptoRow.holds Try.pinned (OpenSpec.upto fnNeedsSpec)

/-- 'laws.FnExactGives', WHERE WHAT IT READS IS OF BULK AT MOST 1048576: true; the input reads as it did. -/
def fnExactGivesUptoRow : OpenClaim := { program := "ytnmkibklkdhceaa", sum := "3aa22e51f8579ff2a0f19716c123c8f66946052b79f48913e092298f9e116cd3", func := "loop.example/g00801/laws.FnExactGives", spec := "fnExactGives", apart := false, narrowed := true }
def FnExactGivesUptoSaid : Prop := fnExactGivesUptoRow.holds Try.pinned (OpenSpec.upto fnExactGivesSpec)

/-- 'laws.FnExactLevel', WHERE WHAT IT READS IS OF BULK AT MOST 1048576: true; the input reads as it did. -/
def fnExactLevelUptoRow : OpenClaim := { program := "ytnmkibklkdhceaa", sum := "3aa22e51f8579ff2a0f19716c123c8f66946052b79f48913e092298f9e116cd3", func := "loop.example/g00801/laws.FnExactLevel", spec := "fnExactLevel", apart := false, narrowed := true }
def FnExactLevelUptoSaid : Prop := fnExactLevelUptoRow.holds Try.pinned (OpenSpec.upto fnExactLevelSpec)

/-- 'laws.FnExactUpAll', WHERE WHAT IT READS IS OF BULK AT MOST 1048576: true; the input reads as it did. -/
def fnExactUpAllUptoRow : OpenClaim := { program := "ytnmkibklkdhceaa", sum := "3aa22e51f8579ff2a0f19716c123c8f66946052b79f48913e092298f9e116cd3", func := "loop.example/g00801/laws.FnExactUpAll", spec := "fnExactUpAll", apart := false, narrowed := true }
def FnExactUpAllUptoSaid : Prop := fnExactUpAllUptoRow.holds Try.pinned (OpenSpec.upto fnExactUpAllSpec)

end Rows
end Go.Proofs.Ytnmkibklkdhceaa
