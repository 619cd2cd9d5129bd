/-
  No cell of these rows narrows 'for every input' (looked for: loops, veiled, ifaces, maps, wideKeys, modest, calm, conditions, laid).
  DERIVED. THE GIVEN ROWS OF THIS SEAT. 10 by the template 'for every input the law returns true; each argument reads behind the call as it read before'; 0 by the template 'total and deterministic' (their statements: YtiapneoakbealaaGreatTotals.lean).
  GIVEN WITH THE SEED: the statements are not yours to turn. If you find one false, say at which input.
  Laid BY PROGRAM, IN A SANDBOX (cutbox-rows.mjs): the forced cells as the released guide's own fill.sh prints them over the translation 11ed4f4ffd42b1c3… (all of the seat's roots in one cut). By AI agents, Wed Nov 11 2026. No macro, syntax, notation, axiom, sorry.
-/
import Derived.Test.YtiapneoakbealaaGreatChecked
import GoSem.Claim
import GoSem.ClaimJoined
import GoSem.ClaimMapViews
import Derived.JoinedTies
import Derived.KernelRfl
namespace Go.Proofs.YtiapneoakbealaaGreat
/- THE CELL 'sum', in the pinned program and in every row, IS THE sha256 OF THE DUMP (.gsa) THAT YtiapneoakbealaaGreatProg.lean LOADS. Nothing in Lean hashes anything: it is a label: what it is worth is what the hold of that sum in a sandbox is worth. -/
noncomputable def Tryz.pinned : Pinned := { name := "ytiapneoakbealaagreat", sum := "11ed4f4ffd42b1c38dc551b002a48c3abb5c1c644a637228165b33384e9dd1e3", checked := Tryz.checked }
namespace Rows
def none {H : Type} : Left H := { results := [], args := [] }

/-- 'gamplaw06.WindRounds': WHATEVER THE INPUT: true; the input reads as it did. -/
def windRoundsSpec : ChangeSpec := { name := "windRounds", fn := fun _ => fun
  | [d1, d2, d3] => { results := [.lit (.bool true)], args := [d1, d2, d3] }
  | _ => none }
def windRoundsRow : OpenClaim := { program := "ytiapneoakbealaagreat", sum := "11ed4f4ffd42b1c38dc551b002a48c3abb5c1c644a637228165b33384e9dd1e3", func := "gamp/gamplaw06.WindRounds", spec := "windRounds", inPlace := ["internal/bytealg.IndexByteString", "internal/bytealg.IndexString"], unfollowed := true, recurses := true, named := ["internal/bytealg.MaxLen"], apart := false }
def WindRoundsSaid : Prop := windRoundsRow.holds Tryz.pinned (OpenSpec.ofChange windRoundsSpec)

/-- ITS FALSE NEIGHBOUR: 'it returns false'. Refute it at one input. -/
def windRoundsWrong : ChangeSpec := { name := "windRounds", fn := fun _ => fun
  | [d1, d2, d3] => { results := [.lit (.bool false)], args := [d1, d2, d3] }
  | _ => none }
def WindRoundsWrongFalsely : Prop := windRoundsRow.holds Tryz.pinned (OpenSpec.ofChange windRoundsWrong)

/-- 'gamplaw06.WindContracts': WHATEVER THE INPUT: true; the input reads as it did. -/
def windContractsSpec : ChangeSpec := { name := "windContracts", fn := fun _ => fun
  | [d1, d2] => { results := [.lit (.bool true)], args := [d1, d2] }
  | _ => none }
def windContractsRow : OpenClaim := { program := "ytiapneoakbealaagreat", sum := "11ed4f4ffd42b1c38dc551b002a48c3abb5c1c644a637228165b33384e9dd1e3", func := "gamp/gamplaw06.WindContracts", spec := "windContracts", inPlace := ["internal/bytealg.IndexByteString", "internal/bytealg.IndexString"], unfollowed := true, recurses := true, named := ["internal/bytealg.MaxLen"], apart := false }
def WindContractsSaid : Prop := windContractsRow.holds Tryz.pinned (OpenSpec.ofChange windContractsSpec)

/-- ITS FALSE NEIGHBOUR: 'it returns false'. Refute it at one input. -/
def windContractsWrong : ChangeSpec := { name := "windContracts", fn := fun _ => fun
  | [d1, d2] => { results := [.lit (.bool false)], args := [d1, d2] }
  | _ => none }
def WindContractsWrongFalsely : Prop := windContractsRow.holds Tryz.pinned (OpenSpec.ofChange windContractsWrong)

/-- 'gamplaw06.WindScales': WHATEVER THE INPUT: true; the input reads as it did. -/
def windScalesSpec : ChangeSpec := { name := "windScales", fn := fun _ => fun
  | [d1, d2, d3] => { results := [.lit (.bool true)], args := [d1, d2, d3] }
  | _ => none }
def windScalesRow : OpenClaim := { program := "ytiapneoakbealaagreat", sum := "11ed4f4ffd42b1c38dc551b002a48c3abb5c1c644a637228165b33384e9dd1e3", func := "gamp/gamplaw06.WindScales", spec := "windScales", inPlace := ["internal/bytealg.IndexByteString", "internal/bytealg.IndexString"], unfollowed := true, recurses := true, named := ["internal/bytealg.MaxLen"], apart := false }
def WindScalesSaid : Prop := windScalesRow.holds Tryz.pinned (OpenSpec.ofChange windScalesSpec)

/-- ITS FALSE NEIGHBOUR: 'it returns false'. Refute it at one input. -/
def windScalesWrong : ChangeSpec := { name := "windScales", fn := fun _ => fun
  | [d1, d2, d3] => { results := [.lit (.bool false)], args := [d1, d2, d3] }
  | _ => none }
def WindScalesWrongFalsely : Prop := windScalesRow.holds Tryz.pinned (OpenSpec.ofChange windScalesWrong)

/-- 'gamplaw06.WindSides': WHATEVER THE INPUT: true; the input reads as it did. -/
def windSidesSpec : ChangeSpec := { name := "windSides", fn := fun _ => fun
  | [d1, d2] => { results := [.lit (.bool true)], args := [d1, d2] }
  | _ => none }
def windSidesRow : OpenClaim := { program := "ytiapneoakbealaagreat", sum := "11ed4f4ffd42b1c38dc551b002a48c3abb5c1c644a637228165b33384e9dd1e3", func := "gamp/gamplaw06.WindSides", spec := "windSides", inPlace := ["internal/bytealg.IndexByteString", "internal/bytealg.IndexString"], unfollowed := true, recurses := true, named := ["internal/bytealg.MaxLen"], apart := false }
def WindSidesSaid : Prop := windSidesRow.holds Tryz.pinned (OpenSpec.ofChange windSidesSpec)

/-- ITS FALSE NEIGHBOUR: 'it returns false'. Refute it at one input. -/
def windSidesWrong : ChangeSpec := { name := "windSides", fn := fun _ => fun
  | [d1, d2] => { results := [.lit (.bool false)], args := [d1, d2] }
  | _ => none }
def WindSidesWrongFalsely : Prop := windSidesRow.holds Tryz.pinned (OpenSpec.ofChange windSidesWrong)

/-- 'gamplaw06.WindChoice': WHATEVER THE INPUT: true; the input reads as it did. -/
def windChoiceSpec : ChangeSpec := { name := "windChoice", fn := fun _ => fun
  | [d1, d2, d3] => { results := [.lit (.bool true)], args := [d1, d2, d3] }
  | _ => none }
def windChoiceRow : OpenClaim := { program := "ytiapneoakbealaagreat", sum := "11ed4f4ffd42b1c38dc551b002a48c3abb5c1c644a637228165b33384e9dd1e3", func := "gamp/gamplaw06.WindChoice", spec := "windChoice", inPlace := ["internal/bytealg.IndexByteString", "internal/bytealg.IndexString"], unfollowed := true, recurses := true, named := ["internal/bytealg.MaxLen"], apart := false }
def WindChoiceSaid : Prop := windChoiceRow.holds Tryz.pinned (OpenSpec.ofChange windChoiceSpec)

/-- ITS FALSE NEIGHBOUR: 'it returns false'. Refute it at one input. -/
def windChoiceWrong : ChangeSpec := { name := "windChoice", fn := fun _ => fun
  | [d1, d2, d3] => { results := [.lit (.bool false)], args := [d1, d2, d3] }
  | _ => none }
def WindChoiceWrongFalsely : Prop := windChoiceRow.holds Tryz.pinned (OpenSpec.ofChange windChoiceWrong)

/-- 'gamplaw06.WindProves': WHATEVER THE INPUT: true; the input reads as it did. -/
def windProvesSpec : ChangeSpec := { name := "windProves", fn := fun _ => fun
  | [d1, d2, d3] => { results := [.lit (.bool true)], args := [d1, d2, d3] }
  | _ => none }
def windProvesRow : OpenClaim := { program := "ytiapneoakbealaagreat", sum := "11ed4f4ffd42b1c38dc551b002a48c3abb5c1c644a637228165b33384e9dd1e3", func := "gamp/gamplaw06.WindProves", spec := "windProves", inPlace := ["internal/bytealg.IndexByteString", "internal/bytealg.IndexString"], unfollowed := true, recurses := true, named := ["internal/bytealg.MaxLen"], apart := false }
def WindProvesSaid : Prop := windProvesRow.holds Tryz.pinned (OpenSpec.ofChange windProvesSpec)

/-- ITS FALSE NEIGHBOUR: 'it returns false'. Refute it at one input. -/
def windProvesWrong : ChangeSpec := { name := "windProves", fn := fun _ => fun
  | [d1, d2, d3] => { results := [.lit (.bool false)], args := [d1, d2, d3] }
  | _ => none }
def WindProvesWrongFalsely : Prop := windProvesRow.holds Tryz.pinned (OpenSpec.ofChange windProvesWrong)

/-- 'gamplaw06.WindPlays': WHATEVER THE INPUT: true; the input reads as it did. -/
def windPlaysSpec : ChangeSpec := { name := "windPlays", fn := fun _ => fun
  | [d1, d2, d3] => { results := [.lit (.bool true)], args := [d1, d2, d3] }
  | _ => none }
def windPlaysRow : OpenClaim := { program := "ytiapneoakbealaagreat", sum := "11ed4f4ffd42b1c38dc551b002a48c3abb5c1c644a637228165b33384e9dd1e3", func := "gamp/gamplaw06.WindPlays", spec := "windPlays", inPlace := ["internal/bytealg.IndexByteString", "internal/bytealg.IndexString"], unfollowed := true, recurses := true, named := ["internal/bytealg.MaxLen"], apart := false }
def WindPlaysSaid : Prop := windPlaysRow.holds Tryz.pinned (OpenSpec.ofChange windPlaysSpec)

/-- ITS FALSE NEIGHBOUR: 'it returns false'. Refute it at one input. -/
def windPlaysWrong : ChangeSpec := { name := "windPlays", fn := fun _ => fun
  | [d1, d2, d3] => { results := [.lit (.bool false)], args := [d1, d2, d3] }
  | _ => none }
def WindPlaysWrongFalsely : Prop := windPlaysRow.holds Tryz.pinned (OpenSpec.ofChange windPlaysWrong)

/-- 'gamplaw06.WindMinimax': WHATEVER THE INPUT: true; the input reads as it did. -/
def windMinimaxSpec : ChangeSpec := { name := "windMinimax", fn := fun _ => fun
  | [d1, d2] => { results := [.lit (.bool true)], args := [d1, d2] }
  | _ => none }
def windMinimaxRow : OpenClaim := { program := "ytiapneoakbealaagreat", sum := "11ed4f4ffd42b1c38dc551b002a48c3abb5c1c644a637228165b33384e9dd1e3", func := "gamp/gamplaw06.WindMinimax", spec := "windMinimax", inPlace := ["internal/bytealg.IndexByteString", "internal/bytealg.IndexString"], unfollowed := true, recurses := true, named := ["internal/bytealg.MaxLen"], apart := false }
def WindMinimaxSaid : Prop := windMinimaxRow.holds Tryz.pinned (OpenSpec.ofChange windMinimaxSpec)

/-- ITS FALSE NEIGHBOUR: 'it returns false'. Refute it at one input. -/
def windMinimaxWrong : ChangeSpec := { name := "windMinimax", fn := fun _ => fun
  | [d1, d2] => { results := [.lit (.bool false)], args := [d1, d2] }
  | _ => none }
def WindMinimaxWrongFalsely : Prop := windMinimaxRow.holds Tryz.pinned (OpenSpec.ofChange windMinimaxWrong)

/-- 'gamplaw06.WindValues': WHATEVER THE INPUT: true; the input reads as it did. -/
def windValuesSpec : ChangeSpec := { name := "windValues", fn := fun _ => fun
  | [d1, d2] => { results := [.lit (.bool true)], args := [d1, d2] }
  | _ => none }
def windValuesRow : OpenClaim := { program := "ytiapneoakbealaagreat", sum := "11ed4f4ffd42b1c38dc551b002a48c3abb5c1c644a637228165b33384e9dd1e3", func := "gamp/gamplaw06.WindValues", spec := "windValues", inPlace := ["internal/bytealg.IndexByteString", "internal/bytealg.IndexString"], unfollowed := true, recurses := true, named := ["internal/bytealg.MaxLen"], apart := false }
def WindValuesSaid : Prop := windValuesRow.holds Tryz.pinned (OpenSpec.ofChange windValuesSpec)

/-- ITS FALSE NEIGHBOUR: 'it returns false'. Refute it at one input. -/
def windValuesWrong : ChangeSpec := { name := "windValues", fn := fun _ => fun
  | [d1, d2] => { results := [.lit (.bool false)], args := [d1, d2] }
  | _ => none }
def WindValuesWrongFalsely : Prop := windValuesRow.holds Tryz.pinned (OpenSpec.ofChange windValuesWrong)

/-- 'gamplaw06.WindSaddle': WHATEVER THE INPUT: true; the input reads as it did. -/
def windSaddleSpec : ChangeSpec := { name := "windSaddle", fn := fun _ => fun
  | [d1, d2] => { results := [.lit (.bool true)], args := [d1, d2] }
  | _ => none }
def windSaddleRow : OpenClaim := { program := "ytiapneoakbealaagreat", sum := "11ed4f4ffd42b1c38dc551b002a48c3abb5c1c644a637228165b33384e9dd1e3", func := "gamp/gamplaw06.WindSaddle", spec := "windSaddle", inPlace := ["internal/bytealg.IndexByteString", "internal/bytealg.IndexString"], unfollowed := true, recurses := true, named := ["internal/bytealg.MaxLen"], apart := false }
def WindSaddleSaid : Prop := windSaddleRow.holds Tryz.pinned (OpenSpec.ofChange windSaddleSpec)

/-- ITS FALSE NEIGHBOUR: 'it returns false'. Refute it at one input. -/
def windSaddleWrong : ChangeSpec := { name := "windSaddle", fn := fun _ => fun
  | [d1, d2] => { results := [.lit (.bool false)], args := [d1, d2] }
  | _ => none }
def WindSaddleWrongFalsely : Prop := windSaddleRow.holds Tryz.pinned (OpenSpec.ofChange windSaddleWrong)

/- THE SECOND FORM. 'bulk': how many values and letters a reading holds, each counted each time it is reached (what is shared counts as often as it is met; a slice's spare places count too). A statement '..UptoSaid' is the law's where the arguments, and the package variables that the reading takes, are together of bulk at most 1048576: NARROWER than '..Said'. Prove '..Said' where nothing that the law and all that it calls make is longer than what came in: it says more and counts as full. Else prove '..UptoSaid'. A law counts once. -/
mutual
def uptoBulk {H : Type} : DataW H → Nat
  | .lit (.string bytes) => bytes.length + 1
  | .lit _ => 1
  | .nil => 1
  | .ptr d => uptoBulk d + 1
  | .slice elems spare => uptoBulkAll elems + uptoBulkAll spare + 1
  | .agg parts => uptoBulkAll parts + 1
  | .iface _ d => uptoBulk d + 1
  | .map entries => uptoBulkEntries entries + 1
  | .held _ => 1
def uptoBulkAll {H : Type} : List (DataW H) → Nat
  | [] => 0
  | d :: r => uptoBulk d + uptoBulkAll r
def uptoBulkEntries {H : Type} : List (Lit × DataW H) → Nat
  | [] => 0
  | x :: r => uptoBulkEntry x + uptoBulkEntries r
def uptoBulkEntry {H : Type} : Lit × DataW H → Nat
  | (.string bytes, d) => bytes.length + uptoBulk d + 1
  | (_, d) => uptoBulk d + 1
 end
def uptoSmall : (H : Type) → List (DataW H) → Bool := fun _ ds => decide (uptoBulkAll ds ≤ 1048576)
def OpenSpec.upto (s : _root_.Go.ChangeSpec) : _root_.Go.OpenSpec := { _root_.Go.OpenSpec.ofChange s with cond := some uptoSmall }

/-- 'gamplaw06.WindRounds', WHERE WHAT IT READS IS OF BULK AT MOST 1048576: true; the input reads as it did. -/
def windRoundsUptoRow : OpenClaim := { program := "ytiapneoakbealaagreat", sum := "11ed4f4ffd42b1c38dc551b002a48c3abb5c1c644a637228165b33384e9dd1e3", func := "gamp/gamplaw06.WindRounds", spec := "windRounds", inPlace := ["internal/bytealg.IndexByteString", "internal/bytealg.IndexString"], unfollowed := true, recurses := true, named := ["internal/bytealg.MaxLen"], apart := false, narrowed := true }
def WindRoundsUptoSaid : Prop := windRoundsUptoRow.holds Tryz.pinned (OpenSpec.upto windRoundsSpec)

/-- 'gamplaw06.WindContracts', WHERE WHAT IT READS IS OF BULK AT MOST 1048576: true; the input reads as it did. -/
def windContractsUptoRow : OpenClaim := { program := "ytiapneoakbealaagreat", sum := "11ed4f4ffd42b1c38dc551b002a48c3abb5c1c644a637228165b33384e9dd1e3", func := "gamp/gamplaw06.WindContracts", spec := "windContracts", inPlace := ["internal/bytealg.IndexByteString", "internal/bytealg.IndexString"], unfollowed := true, recurses := true, named := ["internal/bytealg.MaxLen"], apart := false, narrowed := true }
def WindContractsUptoSaid : Prop := windContractsUptoRow.holds Tryz.pinned (OpenSpec.upto windContractsSpec)

/-- 'gamplaw06.WindScales', WHERE WHAT IT READS IS OF BULK AT MOST 1048576: true; the input reads as it did. -/
def windScalesUptoRow : OpenClaim := { program := "ytiapneoakbealaagreat", sum := "11ed4f4ffd42b1c38dc551b002a48c3abb5c1c644a637228165b33384e9dd1e3", func := "gamp/gamplaw06.WindScales", spec := "windScales", inPlace := ["internal/bytealg.IndexByteString", "internal/bytealg.IndexString"], unfollowed := true, recurses := true, named := ["internal/bytealg.MaxLen"], apart := false, narrowed := true }
def WindScalesUptoSaid : Prop := windScalesUptoRow.holds Tryz.pinned (OpenSpec.upto windScalesSpec)

/-- 'gamplaw06.WindSides', WHERE WHAT IT READS IS OF BULK AT MOST 1048576: true; the input reads as it did. -/
def windSidesUptoRow : OpenClaim := { program := "ytiapneoakbealaagreat", sum := "11ed4f4ffd42b1c38dc551b002a48c3abb5c1c644a637228165b33384e9dd1e3", func := "gamp/gamplaw06.WindSides", spec := "windSides", inPlace := ["internal/bytealg.IndexByteString", "internal/bytealg.IndexString"], unfollowed := true, recurses := true, named := ["internal/bytealg.MaxLen"], apart := false, narrowed := true }
def WindSidesUptoSaid : Prop := windSidesUptoRow.holds Tryz.pinned (OpenSpec.upto windSidesSpec)

/-- 'gamplaw06.WindChoice', WHERE WHAT IT READS IS OF BULK AT MOST 1048576: true; the input reads as it did. -/
def windChoiceUptoRow : OpenClaim := { program := "ytiapneoakbealaagreat", sum := "11ed4f4ffd42b1c38dc551b002a48c3abb5c1c644a637228165b33384e9dd1e3", func := "gamp/gamplaw06.WindChoice", spec := "windChoice", inPlace := ["internal/bytealg.IndexByteString", "internal/bytealg.IndexString"], unfollowed := true, recurses := true, named := ["internal/bytealg.MaxLen"], apart := false, narrowed := true }
def WindChoiceUptoSaid : Prop := windChoiceUptoRow.holds Tryz.pinned (OpenSpec.upto windChoiceSpec)

/-- 'gamplaw06.WindProves', WHERE WHAT IT READS IS OF BULK AT MOST 1048576: true; the input reads as it did. -/
def windProvesUptoRow : OpenClaim := { program := "ytiapneoakbealaagreat", sum := "11ed4f4ffd42b1c38dc551b002a48c3abb5c1c644a637228165b33384e9dd1e3", func := "gamp/gamplaw06.WindProves", spec := "windProves", inPlace := ["internal/bytealg.IndexByteString", "internal/bytealg.IndexString"], unfollowed := true, recurses := true, named := ["internal/bytealg.MaxLen"], apart := false, narrowed := true }
def WindProvesUptoSaid : Prop := windProvesUptoRow.holds Tryz.pinned (OpenSpec.upto windProvesSpec)

/-- 'gamplaw06.WindPlays', WHERE WHAT IT READS IS OF BULK AT MOST 1048576: true; the input reads as it did. -/
def windPlaysUptoRow : OpenClaim := { program := "ytiapneoakbealaagreat", sum := "11ed4f4ffd42b1c38dc551b002a48c3abb5c1c644a637228165b33384e9dd1e3", func := "gamp/gamplaw06.WindPlays", spec := "windPlays", inPlace := ["internal/bytealg.IndexByteString", "internal/bytealg.IndexString"], unfollowed := true, recurses := true, named := ["internal/bytealg.MaxLen"], apart := false, narrowed := true }
def WindPlaysUptoSaid : Prop := windPlaysUptoRow.holds Tryz.pinned (OpenSpec.upto windPlaysSpec)

/-- 'gamplaw06.WindMinimax', WHERE WHAT IT READS IS OF BULK AT MOST 1048576: true; the input reads as it did. -/
def windMinimaxUptoRow : OpenClaim := { program := "ytiapneoakbealaagreat", sum := "11ed4f4ffd42b1c38dc551b002a48c3abb5c1c644a637228165b33384e9dd1e3", func := "gamp/gamplaw06.WindMinimax", spec := "windMinimax", inPlace := ["internal/bytealg.IndexByteString", "internal/bytealg.IndexString"], unfollowed := true, recurses := true, named := ["internal/bytealg.MaxLen"], apart := false, narrowed := true }
def WindMinimaxUptoSaid : Prop := windMinimaxUptoRow.holds Tryz.pinned (OpenSpec.upto windMinimaxSpec)

/-- 'gamplaw06.WindValues', WHERE WHAT IT READS IS OF BULK AT MOST 1048576: true; the input reads as it did. -/
def windValuesUptoRow : OpenClaim := { program := "ytiapneoakbealaagreat", sum := "11ed4f4ffd42b1c38dc551b002a48c3abb5c1c644a637228165b33384e9dd1e3", func := "gamp/gamplaw06.WindValues", spec := "windValues", inPlace := ["internal/bytealg.IndexByteString", "internal/bytealg.IndexString"], unfollowed := true, recurses := true, named := ["internal/bytealg.MaxLen"], apart := false, narrowed := true }
def WindValuesUptoSaid : Prop := windValuesUptoRow.holds Tryz.pinned (OpenSpec.upto windValuesSpec)

/-- 'gamplaw06.WindSaddle', WHERE WHAT IT READS IS OF BULK AT MOST 1048576: true; the input reads as it did. -/
def windSaddleUptoRow : OpenClaim := { program := "ytiapneoakbealaagreat", sum := "11ed4f4ffd42b1c38dc551b002a48c3abb5c1c644a637228165b33384e9dd1e3", func := "gamp/gamplaw06.WindSaddle", spec := "windSaddle", inPlace := ["internal/bytealg.IndexByteString", "internal/bytealg.IndexString"], unfollowed := true, recurses := true, named := ["internal/bytealg.MaxLen"], apart := false, narrowed := true }
def WindSaddleUptoSaid : Prop := windSaddleUptoRow.holds Tryz.pinned (OpenSpec.upto windSaddleSpec)

end Rows
end Go.Proofs.YtiapneoakbealaaGreat
