/-
  No cell of these rows narrows 'for every input' (looked for: loops, veiled, ifaces, maps, wideKeys, modest, calm, conditions, laid).
  DERIVED. THE GIVEN ROWS OF THIS SEAT. 12 by the template 'for every input the law returns true; each argument reads behind the call as it read before'; 0 by the template 'total and deterministic' (their statements: YtnpgooaiiboanaaGreatTotals.lean).
  GIVEN WITH THE SEED: the statements are not yours to turn. If you find one false, say at which input.
  Laid BY PROGRAM, IN A SANDBOX (cutbox-rows.mjs): the forced cells as the released guide's own fill.sh prints them over the translation 8805aea137424830… (all of the seat's roots in one cut). By AI agents, Wed Nov 11 2026. No macro, syntax, notation, axiom, sorry.
-/
import Derived.Test.YtnpgooaiiboanaaGreatChecked
import GoSem.Claim
import GoSem.ClaimJoined
import GoSem.ClaimMapViews
import Derived.JoinedTies
import Derived.KernelRfl
namespace Go.Proofs.YtnpgooaiiboanaaGreat
/- THE CELL 'sum', in the pinned program and in every row, IS THE sha256 OF THE DUMP (.gsa) THAT YtnpgooaiiboanaaGreatProg.lean LOADS. Nothing in Lean hashes anything: it is a label: what it is worth is what the hold of that sum in a sandbox is worth. -/
noncomputable def Tryz.pinned : Pinned := { name := "ytnpgooaiiboanaagreat", sum := "8805aea1374248303ac6563f3c347eace20ac70507e5899e7db38e4667d17760", checked := Tryz.checked }
namespace Rows
def none {H : Type} : Left H := { results := [], args := [] }

/-- 'gamplaw02.SpringTrees': WHATEVER THE INPUT: true; the input reads as it did. -/
def springTreesSpec : ChangeSpec := { name := "springTrees", fn := fun _ => fun
  | [d] => { results := [.lit (.bool true)], args := [d] }
  | _ => none }
def springTreesRow : OpenClaim := { program := "ytnpgooaiiboanaagreat", sum := "8805aea1374248303ac6563f3c347eace20ac70507e5899e7db38e4667d17760", func := "gamp/gamplaw02.SpringTrees", spec := "springTrees", inPlace := ["internal/bytealg.IndexByteString", "internal/bytealg.IndexString"], recurses := true, named := ["internal/bytealg.MaxLen"], plainKeys := false, apart := false }
def SpringTreesSaid : Prop := springTreesRow.holds Tryz.pinned (OpenSpec.ofChange springTreesSpec)

/-- ITS FALSE NEIGHBOUR: 'it returns false'. Refute it at one input. -/
def springTreesWrong : ChangeSpec := { name := "springTrees", fn := fun _ => fun
  | [d] => { results := [.lit (.bool false)], args := [d] }
  | _ => none }
def SpringTreesWrongFalsely : Prop := springTreesRow.holds Tryz.pinned (OpenSpec.ofChange springTreesWrong)

/-- 'gamplaw02.SpringContracted': WHATEVER THE INPUT: true; the input reads as it did. -/
def springContractedSpec : ChangeSpec := { name := "springContracted", fn := fun _ => fun
  | [d1, d2, d3] => { results := [.lit (.bool true)], args := [d1, d2, d3] }
  | _ => none }
def springContractedRow : OpenClaim := { program := "ytnpgooaiiboanaagreat", sum := "8805aea1374248303ac6563f3c347eace20ac70507e5899e7db38e4667d17760", func := "gamp/gamplaw02.SpringContracted", spec := "springContracted", inPlace := ["internal/bytealg.IndexByteString", "internal/bytealg.IndexString"], unfollowed := true, recurses := true, named := ["internal/bytealg.MaxLen"], plainKeys := false, apart := false }
def SpringContractedSaid : Prop := springContractedRow.holds Tryz.pinned (OpenSpec.ofChange springContractedSpec)

/-- ITS FALSE NEIGHBOUR: 'it returns false'. Refute it at one input. -/
def springContractedWrong : ChangeSpec := { name := "springContracted", fn := fun _ => fun
  | [d1, d2, d3] => { results := [.lit (.bool false)], args := [d1, d2, d3] }
  | _ => none }
def SpringContractedWrongFalsely : Prop := springContractedRow.holds Tryz.pinned (OpenSpec.ofChange springContractedWrong)

/-- 'gamplaw02.SpringKirchhoff': WHATEVER THE INPUT: true; the input reads as it did. -/
def springKirchhoffSpec : ChangeSpec := { name := "springKirchhoff", fn := fun _ => fun
  | [d1, d2, d3] => { results := [.lit (.bool true)], args := [d1, d2, d3] }
  | _ => none }
def springKirchhoffRow : OpenClaim := { program := "ytnpgooaiiboanaagreat", sum := "8805aea1374248303ac6563f3c347eace20ac70507e5899e7db38e4667d17760", func := "gamp/gamplaw02.SpringKirchhoff", spec := "springKirchhoff", inPlace := ["internal/bytealg.IndexByteString", "internal/bytealg.IndexString"], unfollowed := true, recurses := true, named := ["internal/bytealg.MaxLen"], plainKeys := false, apart := false }
def SpringKirchhoffSaid : Prop := springKirchhoffRow.holds Tryz.pinned (OpenSpec.ofChange springKirchhoffSpec)

/-- ITS FALSE NEIGHBOUR: 'it returns false'. Refute it at one input. -/
def springKirchhoffWrong : ChangeSpec := { name := "springKirchhoff", fn := fun _ => fun
  | [d1, d2, d3] => { results := [.lit (.bool false)], args := [d1, d2, d3] }
  | _ => none }
def SpringKirchhoffWrongFalsely : Prop := springKirchhoffRow.holds Tryz.pinned (OpenSpec.ofChange springKirchhoffWrong)

/-- 'gamplaw02.SpringFoster': WHATEVER THE INPUT: true; the input reads as it did. -/
def springFosterSpec : ChangeSpec := { name := "springFoster", fn := fun _ => fun
  | [d1, d2, d3] => { results := [.lit (.bool true)], args := [d1, d2, d3] }
  | _ => none }
def springFosterRow : OpenClaim := { program := "ytnpgooaiiboanaagreat", sum := "8805aea1374248303ac6563f3c347eace20ac70507e5899e7db38e4667d17760", func := "gamp/gamplaw02.SpringFoster", spec := "springFoster", inPlace := ["internal/bytealg.IndexByteString", "internal/bytealg.IndexString"], named := ["internal/bytealg.MaxLen"], plainKeys := false, apart := false }
def SpringFosterSaid : Prop := springFosterRow.holds Tryz.pinned (OpenSpec.ofChange springFosterSpec)

/-- ITS FALSE NEIGHBOUR: 'it returns false'. Refute it at one input. -/
def springFosterWrong : ChangeSpec := { name := "springFoster", fn := fun _ => fun
  | [d1, d2, d3] => { results := [.lit (.bool false)], args := [d1, d2, d3] }
  | _ => none }
def SpringFosterWrongFalsely : Prop := springFosterRow.holds Tryz.pinned (OpenSpec.ofChange springFosterWrong)

/-- 'gamplaw02.SpringRayleigh': WHATEVER THE INPUT: true; the input reads as it did. -/
def springRayleighSpec : ChangeSpec := { name := "springRayleigh", fn := fun _ => fun
  | [d1, d2, d3] => { results := [.lit (.bool true)], args := [d1, d2, d3] }
  | _ => none }
def springRayleighRow : OpenClaim := { program := "ytnpgooaiiboanaagreat", sum := "8805aea1374248303ac6563f3c347eace20ac70507e5899e7db38e4667d17760", func := "gamp/gamplaw02.SpringRayleigh", spec := "springRayleigh", inPlace := ["internal/bytealg.IndexByteString", "internal/bytealg.IndexString"], named := ["internal/bytealg.MaxLen"], plainKeys := false, apart := false }
def SpringRayleighSaid : Prop := springRayleighRow.holds Tryz.pinned (OpenSpec.ofChange springRayleighSpec)

/-- ITS FALSE NEIGHBOUR: 'it returns false'. Refute it at one input. -/
def springRayleighWrong : ChangeSpec := { name := "springRayleigh", fn := fun _ => fun
  | [d1, d2, d3] => { results := [.lit (.bool false)], args := [d1, d2, d3] }
  | _ => none }
def SpringRayleighWrongFalsely : Prop := springRayleighRow.holds Tryz.pinned (OpenSpec.ofChange springRayleighWrong)

/-- 'gamplaw02.SpringBetweens': WHATEVER THE INPUT: true; the input reads as it did. -/
def springBetweensSpec : ChangeSpec := { name := "springBetweens", fn := fun _ => fun
  | [d1, d2] => { results := [.lit (.bool true)], args := [d1, d2] }
  | _ => none }
def springBetweensRow : OpenClaim := { program := "ytnpgooaiiboanaagreat", sum := "8805aea1374248303ac6563f3c347eace20ac70507e5899e7db38e4667d17760", func := "gamp/gamplaw02.SpringBetweens", spec := "springBetweens", inPlace := ["internal/bytealg.IndexByteString", "internal/bytealg.IndexString"], named := ["internal/bytealg.MaxLen"], plainKeys := false, apart := false }
def SpringBetweensSaid : Prop := springBetweensRow.holds Tryz.pinned (OpenSpec.ofChange springBetweensSpec)

/-- ITS FALSE NEIGHBOUR: 'it returns false'. Refute it at one input. -/
def springBetweensWrong : ChangeSpec := { name := "springBetweens", fn := fun _ => fun
  | [d1, d2] => { results := [.lit (.bool false)], args := [d1, d2] }
  | _ => none }
def SpringBetweensWrongFalsely : Prop := springBetweensRow.holds Tryz.pinned (OpenSpec.ofChange springBetweensWrong)

/-- 'gamplaw02.SpringMoves': WHATEVER THE INPUT: true; the input reads as it did. -/
def springMovesSpec : ChangeSpec := { name := "springMoves", fn := fun _ => fun
  | [d1, d2] => { results := [.lit (.bool true)], args := [d1, d2] }
  | _ => none }
def springMovesRow : OpenClaim := { program := "ytnpgooaiiboanaagreat", sum := "8805aea1374248303ac6563f3c347eace20ac70507e5899e7db38e4667d17760", func := "gamp/gamplaw02.SpringMoves", spec := "springMoves", inPlace := ["internal/bytealg.IndexByteString", "internal/bytealg.IndexString"], unfollowed := true, recurses := true, named := ["internal/bytealg.MaxLen"], plainKeys := false, apart := false }
def SpringMovesSaid : Prop := springMovesRow.holds Tryz.pinned (OpenSpec.ofChange springMovesSpec)

/-- ITS FALSE NEIGHBOUR: 'it returns false'. Refute it at one input. -/
def springMovesWrong : ChangeSpec := { name := "springMoves", fn := fun _ => fun
  | [d1, d2] => { results := [.lit (.bool false)], args := [d1, d2] }
  | _ => none }
def SpringMovesWrongFalsely : Prop := springMovesRow.holds Tryz.pinned (OpenSpec.ofChange springMovesWrong)

/-- 'gamplaw02.SpringReciprocal': WHATEVER THE INPUT: true; the input reads as it did. -/
def springReciprocalSpec : ChangeSpec := { name := "springReciprocal", fn := fun _ => fun
  | [d1, d2, d3] => { results := [.lit (.bool true)], args := [d1, d2, d3] }
  | _ => none }
def springReciprocalRow : OpenClaim := { program := "ytnpgooaiiboanaagreat", sum := "8805aea1374248303ac6563f3c347eace20ac70507e5899e7db38e4667d17760", func := "gamp/gamplaw02.SpringReciprocal", spec := "springReciprocal", inPlace := ["internal/bytealg.IndexByteString", "internal/bytealg.IndexString"], unfollowed := true, recurses := true, named := ["internal/bytealg.MaxLen"], plainKeys := false, apart := false }
def SpringReciprocalSaid : Prop := springReciprocalRow.holds Tryz.pinned (OpenSpec.ofChange springReciprocalSpec)

/-- ITS FALSE NEIGHBOUR: 'it returns false'. Refute it at one input. -/
def springReciprocalWrong : ChangeSpec := { name := "springReciprocal", fn := fun _ => fun
  | [d1, d2, d3] => { results := [.lit (.bool false)], args := [d1, d2, d3] }
  | _ => none }
def SpringReciprocalWrongFalsely : Prop := springReciprocalRow.holds Tryz.pinned (OpenSpec.ofChange springReciprocalWrong)

/-- 'gamplaw02.SpringCarries': WHATEVER THE INPUT: true; the input reads as it did. -/
def springCarriesSpec : ChangeSpec := { name := "springCarries", fn := fun _ => fun
  | [d1, d2, d3] => { results := [.lit (.bool true)], args := [d1, d2, d3] }
  | _ => none }
def springCarriesRow : OpenClaim := { program := "ytnpgooaiiboanaagreat", sum := "8805aea1374248303ac6563f3c347eace20ac70507e5899e7db38e4667d17760", func := "gamp/gamplaw02.SpringCarries", spec := "springCarries", inPlace := ["internal/bytealg.IndexByteString", "internal/bytealg.IndexString"], unfollowed := true, recurses := true, named := ["internal/bytealg.MaxLen"], plainKeys := false, apart := false }
def SpringCarriesSaid : Prop := springCarriesRow.holds Tryz.pinned (OpenSpec.ofChange springCarriesSpec)

/-- ITS FALSE NEIGHBOUR: 'it returns false'. Refute it at one input. -/
def springCarriesWrong : ChangeSpec := { name := "springCarries", fn := fun _ => fun
  | [d1, d2, d3] => { results := [.lit (.bool false)], args := [d1, d2, d3] }
  | _ => none }
def SpringCarriesWrongFalsely : Prop := springCarriesRow.holds Tryz.pinned (OpenSpec.ofChange springCarriesWrong)

/-- 'gamplaw02.SpringThomson': WHATEVER THE INPUT: true; the input reads as it did. -/
def springThomsonSpec : ChangeSpec := { name := "springThomson", fn := fun _ => fun
  | [d1, d2, d3] => { results := [.lit (.bool true)], args := [d1, d2, d3] }
  | _ => none }
def springThomsonRow : OpenClaim := { program := "ytnpgooaiiboanaagreat", sum := "8805aea1374248303ac6563f3c347eace20ac70507e5899e7db38e4667d17760", func := "gamp/gamplaw02.SpringThomson", spec := "springThomson", inPlace := ["internal/bytealg.IndexByteString", "internal/bytealg.IndexString"], unfollowed := true, recurses := true, named := ["internal/bytealg.MaxLen"], plainKeys := false, apart := false }
def SpringThomsonSaid : Prop := springThomsonRow.holds Tryz.pinned (OpenSpec.ofChange springThomsonSpec)

/-- ITS FALSE NEIGHBOUR: 'it returns false'. Refute it at one input. -/
def springThomsonWrong : ChangeSpec := { name := "springThomson", fn := fun _ => fun
  | [d1, d2, d3] => { results := [.lit (.bool false)], args := [d1, d2, d3] }
  | _ => none }
def SpringThomsonWrongFalsely : Prop := springThomsonRow.holds Tryz.pinned (OpenSpec.ofChange springThomsonWrong)

/-- 'gamplaw02.SpringDrops': WHATEVER THE INPUT: true; the input reads as it did. -/
def springDropsSpec : ChangeSpec := { name := "springDrops", fn := fun _ => fun
  | [d1, d2] => { results := [.lit (.bool true)], args := [d1, d2] }
  | _ => none }
def springDropsRow : OpenClaim := { program := "ytnpgooaiiboanaagreat", sum := "8805aea1374248303ac6563f3c347eace20ac70507e5899e7db38e4667d17760", func := "gamp/gamplaw02.SpringDrops", spec := "springDrops", inPlace := ["internal/bytealg.IndexByteString", "internal/bytealg.IndexString"], unfollowed := true, recurses := true, named := ["internal/bytealg.MaxLen"], plainKeys := false, apart := false }
def SpringDropsSaid : Prop := springDropsRow.holds Tryz.pinned (OpenSpec.ofChange springDropsSpec)

/-- ITS FALSE NEIGHBOUR: 'it returns false'. Refute it at one input. -/
def springDropsWrong : ChangeSpec := { name := "springDrops", fn := fun _ => fun
  | [d1, d2] => { results := [.lit (.bool false)], args := [d1, d2] }
  | _ => none }
def SpringDropsWrongFalsely : Prop := springDropsRow.holds Tryz.pinned (OpenSpec.ofChange springDropsWrong)

/-- 'gamplaw02.SpringStars': WHATEVER THE INPUT: true; the input reads as it did. -/
def springStarsSpec : ChangeSpec := { name := "springStars", fn := fun _ => fun
  | [d1, d2, d3] => { results := [.lit (.bool true)], args := [d1, d2, d3] }
  | _ => none }
def springStarsRow : OpenClaim := { program := "ytnpgooaiiboanaagreat", sum := "8805aea1374248303ac6563f3c347eace20ac70507e5899e7db38e4667d17760", func := "gamp/gamplaw02.SpringStars", spec := "springStars", inPlace := ["internal/bytealg.IndexByteString", "internal/bytealg.IndexString"], unfollowed := true, recurses := true, named := ["internal/bytealg.MaxLen"], plainKeys := false, apart := false }
def SpringStarsSaid : Prop := springStarsRow.holds Tryz.pinned (OpenSpec.ofChange springStarsSpec)

/-- ITS FALSE NEIGHBOUR: 'it returns false'. Refute it at one input. -/
def springStarsWrong : ChangeSpec := { name := "springStars", fn := fun _ => fun
  | [d1, d2, d3] => { results := [.lit (.bool false)], args := [d1, d2, d3] }
  | _ => none }
def SpringStarsWrongFalsely : Prop := springStarsRow.holds Tryz.pinned (OpenSpec.ofChange springStarsWrong)

/- THE SECOND FORM. 'bulk': how many values and letters a reading holds, each counted each time it is reached (what is shared counts as often as it is met; a slice's spare places count too). A statement '..UptoSaid' is the law's where the arguments, and the package variables that the reading takes, are together of bulk at most 1048576: NARROWER than '..Said'. Prove '..Said' where nothing that the law and all that it calls make is longer than what came in: it says more and counts as full. Else prove '..UptoSaid'. A law counts once. -/
mutual
def uptoBulk {H : Type} : DataW H → Nat
  | .lit (.string bytes) => bytes.length + 1
  | .lit _ => 1
  | .nil => 1
  | .ptr d => uptoBulk d + 1
  | .slice elems spare => uptoBulkAll elems + uptoBulkAll spare + 1
  | .agg parts => uptoBulkAll parts + 1
  | .iface _ d => uptoBulk d + 1
  | .map entries => uptoBulkEntries entries + 1
  | .held _ => 1
def uptoBulkAll {H : Type} : List (DataW H) → Nat
  | [] => 0
  | d :: r => uptoBulk d + uptoBulkAll r
def uptoBulkEntries {H : Type} : List (Lit × DataW H) → Nat
  | [] => 0
  | x :: r => uptoBulkEntry x + uptoBulkEntries r
def uptoBulkEntry {H : Type} : Lit × DataW H → Nat
  | (.string bytes, d) => bytes.length + uptoBulk d + 1
  | (_, d) => uptoBulk d + 1
 end
def uptoSmall : (H : Type) → List (DataW H) → Bool := fun _ ds => decide (uptoBulkAll ds ≤ 1048576)
def OpenSpec.upto (s : _root_.Go.ChangeSpec) : _root_.Go.OpenSpec := { _root_.Go.OpenSpec.ofChange s with cond := some uptoSmall }

/-- 'gamplaw02.SpringTrees', WHERE WHAT IT READS IS OF BULK AT MOST 1048576: true; the input reads as it did. -/
def springTreesUptoRow : OpenClaim := { program := "ytnpgooaiiboanaagreat", sum := "8805aea1374248303ac6563f3c347eace20ac70507e5899e7db38e4667d17760", func := "gamp/gamplaw02.SpringTrees", spec := "springTrees", inPlace := ["internal/bytealg.IndexByteString", "internal/bytealg.IndexString"], recurses := true, named := ["internal/bytealg.MaxLen"], plainKeys := false, apart := false, narrowed := true }
def SpringTreesUptoSaid : Prop := springTreesUptoRow.holds Tryz.pinned (OpenSpec.upto springTreesSpec)

/-- 'gamplaw02.SpringContracted', WHERE WHAT IT READS IS OF BULK AT MOST 1048576: true; the input reads as it did. -/
def springContractedUptoRow : OpenClaim := { program := "ytnpgooaiiboanaagreat", sum := "8805aea1374248303ac6563f3c347eace20ac70507e5899e7db38e4667d17760", func := "gamp/gamplaw02.SpringContracted", spec := "springContracted", inPlace := ["internal/bytealg.IndexByteString", "internal/bytealg.IndexString"], unfollowed := true, recurses := true, named := ["internal/bytealg.MaxLen"], plainKeys := false, apart := false, narrowed := true }
def SpringContractedUptoSaid : Prop := springContractedUptoRow.holds Tryz.pinned (OpenSpec.upto springContractedSpec)

/-- 'gamplaw02.SpringKirchhoff', WHERE WHAT IT READS IS OF BULK AT MOST 1048576: true; the input reads as it did. -/
def springKirchhoffUptoRow : OpenClaim := { program := "ytnpgooaiiboanaagreat", sum := "8805aea1374248303ac6563f3c347eace20ac70507e5899e7db38e4667d17760", func := "gamp/gamplaw02.SpringKirchhoff", spec := "springKirchhoff", inPlace := ["internal/bytealg.IndexByteString", "internal/bytealg.IndexString"], unfollowed := true, recurses := true, named := ["internal/bytealg.MaxLen"], plainKeys := false, apart := false, narrowed := true }
def SpringKirchhoffUptoSaid : Prop := springKirchhoffUptoRow.holds Tryz.pinned (OpenSpec.upto springKirchhoffSpec)

/-- 'gamplaw02.SpringFoster', WHERE WHAT IT READS IS OF BULK AT MOST 1048576: true; the input reads as it did. -/
def springFosterUptoRow : OpenClaim := { program := "ytnpgooaiiboanaagreat", sum := "8805aea1374248303ac6563f3c347eace20ac70507e5899e7db38e4667d17760", func := "gamp/gamplaw02.SpringFoster", spec := "springFoster", inPlace := ["internal/bytealg.IndexByteString", "internal/bytealg.IndexString"], named := ["internal/bytealg.MaxLen"], plainKeys := false, apart := false, narrowed := true }
def SpringFosterUptoSaid : Prop := springFosterUptoRow.holds Tryz.pinned (OpenSpec.upto springFosterSpec)

/-- 'gamplaw02.SpringRayleigh', WHERE WHAT IT READS IS OF BULK AT MOST 1048576: true; the input reads as it did. -/
def springRayleighUptoRow : OpenClaim := { program := "ytnpgooaiiboanaagreat", sum := "8805aea1374248303ac6563f3c347eace20ac70507e5899e7db38e4667d17760", func := "gamp/gamplaw02.SpringRayleigh", spec := "springRayleigh", inPlace := ["internal/bytealg.IndexByteString", "internal/bytealg.IndexString"], named := ["internal/bytealg.MaxLen"], plainKeys := false, apart := false, narrowed := true }
def SpringRayleighUptoSaid : Prop := springRayleighUptoRow.holds Tryz.pinned (OpenSpec.upto springRayleighSpec)

/-- 'gamplaw02.SpringBetweens', WHERE WHAT IT READS IS OF BULK AT MOST 1048576: true; the input reads as it did. -/
def springBetweensUptoRow : OpenClaim := { program := "ytnpgooaiiboanaagreat", sum := "8805aea1374248303ac6563f3c347eace20ac70507e5899e7db38e4667d17760", func := "gamp/gamplaw02.SpringBetweens", spec := "springBetweens", inPlace := ["internal/bytealg.IndexByteString", "internal/bytealg.IndexString"], named := ["internal/bytealg.MaxLen"], plainKeys := false, apart := false, narrowed := true }
def SpringBetweensUptoSaid : Prop := springBetweensUptoRow.holds Tryz.pinned (OpenSpec.upto springBetweensSpec)

/-- 'gamplaw02.SpringMoves', WHERE WHAT IT READS IS OF BULK AT MOST 1048576: true; the input reads as it did. -/
def springMovesUptoRow : OpenClaim := { program := "ytnpgooaiiboanaagreat", sum := "8805aea1374248303ac6563f3c347eace20ac70507e5899e7db38e4667d17760", func := "gamp/gamplaw02.SpringMoves", spec := "springMoves", inPlace := ["internal/bytealg.IndexByteString", "internal/bytealg.IndexString"], unfollowed := true, recurses := true, named := ["internal/bytealg.MaxLen"], plainKeys := false, apart := false, narrowed := true }
def SpringMovesUptoSaid : Prop := springMovesUptoRow.holds Tryz.pinned (OpenSpec.upto springMovesSpec)

/-- 'gamplaw02.SpringReciprocal', WHERE WHAT IT READS IS OF BULK AT MOST 1048576: true; the input reads as it did. -/
def springReciprocalUptoRow : OpenClaim := { program := "ytnpgooaiiboanaagreat", sum := "8805aea1374248303ac6563f3c347eace20ac70507e5899e7db38e4667d17760", func := "gamp/gamplaw02.SpringReciprocal", spec := "springReciprocal", inPlace := ["internal/bytealg.IndexByteString", "internal/bytealg.IndexString"], unfollowed := true, recurses := true, named := ["internal/bytealg.MaxLen"], plainKeys := false, apart := false, narrowed := true }
def SpringReciprocalUptoSaid : Prop := springReciprocalUptoRow.holds Tryz.pinned (OpenSpec.upto springReciprocalSpec)

/-- 'gamplaw02.SpringCarries', WHERE WHAT IT READS IS OF BULK AT MOST 1048576: true; the input reads as it did. -/
def springCarriesUptoRow : OpenClaim := { program := "ytnpgooaiiboanaagreat", sum := "8805aea1374248303ac6563f3c347eace20ac70507e5899e7db38e4667d17760", func := "gamp/gamplaw02.SpringCarries", spec := "springCarries", inPlace := ["internal/bytealg.IndexByteString", "internal/bytealg.IndexString"], unfollowed := true, recurses := true, named := ["internal/bytealg.MaxLen"], plainKeys := false, apart := false, narrowed := true }
def SpringCarriesUptoSaid : Prop := springCarriesUptoRow.holds Tryz.pinned (OpenSpec.upto springCarriesSpec)

/-- 'gamplaw02.SpringThomson', WHERE WHAT IT READS IS OF BULK AT MOST 1048576: true; the input reads as it did. -/
def springThomsonUptoRow : OpenClaim := { program := "ytnpgooaiiboanaagreat", sum := "8805aea1374248303ac6563f3c347eace20ac70507e5899e7db38e4667d17760", func := "gamp/gamplaw02.SpringThomson", spec := "springThomson", inPlace := ["internal/bytealg.IndexByteString", "internal/bytealg.IndexString"], unfollowed := true, recurses := true, named := ["internal/bytealg.MaxLen"], plainKeys := false, apart := false, narrowed := true }
def SpringThomsonUptoSaid : Prop := springThomsonUptoRow.holds Tryz.pinned (OpenSpec.upto springThomsonSpec)

/-- 'gamplaw02.SpringDrops', WHERE WHAT IT READS IS OF BULK AT MOST 1048576: true; the input reads as it did. -/
def springDropsUptoRow : OpenClaim := { program := "ytnpgooaiiboanaagreat", sum := "8805aea1374248303ac6563f3c347eace20ac70507e5899e7db38e4667d17760", func := "gamp/gamplaw02.SpringDrops", spec := "springDrops", inPlace := ["internal/bytealg.IndexByteString", "internal/bytealg.IndexString"], unfollowed := true, recurses := true, named := ["internal/bytealg.MaxLen"], plainKeys := false, apart := false, narrowed := true }
def SpringDropsUptoSaid : Prop := springDropsUptoRow.holds Tryz.pinned (OpenSpec.upto springDropsSpec)

/-- 'gamplaw02.SpringStars', WHERE WHAT IT READS IS OF BULK AT MOST 1048576: true; the input reads as it did. -/
def springStarsUptoRow : OpenClaim := { program := "ytnpgooaiiboanaagreat", sum := "8805aea1374248303ac6563f3c347eace20ac70507e5899e7db38e4667d17760", func := "gamp/gamplaw02.SpringStars", spec := "springStars", inPlace := ["internal/bytealg.IndexByteString", "internal/bytealg.IndexString"], unfollowed := true, recurses := true, named := ["internal/bytealg.MaxLen"], plainKeys := false, apart := false, narrowed := true }
def SpringStarsUptoSaid : Prop := springStarsUptoRow.holds Tryz.pinned (OpenSpec.upto springStarsSpec)

end Rows
end Go.Proofs.YtnpgooaiiboanaaGreat
