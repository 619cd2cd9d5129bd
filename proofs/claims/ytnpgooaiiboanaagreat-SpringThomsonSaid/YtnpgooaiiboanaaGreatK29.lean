/- Lemmas for the claim (contracts of the functions that it reaches, and what they compute), without conditions. -/
import Derived.Test.YtnpgooaiiboanaaGreatK28
set_option linter.unusedVariables false
set_option linter.unusedSimpArgs false
set_option maxRecDepth 10000
set_option maxHeartbeats 2000000
namespace GoAbs
open Go Go.RowKit
variable {X:Nat→Prop} {B:Nat} {w0 w w':World} {ρ ρ':Pl} {H H':Heap} {P:Program} {O:Nat→Prop}
variable {nt n0:Nat} {st st':St} {Q:Ex→St→Prop}
end GoAbs
